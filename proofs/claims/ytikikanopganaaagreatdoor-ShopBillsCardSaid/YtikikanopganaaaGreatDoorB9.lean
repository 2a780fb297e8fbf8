/-
  Bills: what the document tells.
-/
import Derived.Test.YtikikanopganaaaGreatDoorB8
/-! Bills: what the document tells. -/
namespace Go.Abs.Seat
noncomputable section
open Go Go.Abs Go.Proofs.Tryz
set_option maxRecDepth 100000
set_option maxHeartbeats 40000000
attribute [local irreducible] IntKind.wrap pEq

theorem rBill_bad {l : List Int} (hl : l.length < 4611686018427387904) (hb : ¬ allT l) (a b c s e : Int) : Pure prog 16 [bv (nl l) a b c s e] (.bool false) := by
 have ll := ivs_no l
 refine pure_sym hE rfl (by repeat' (first | exact trivial | assumption | exact flat_no _ | exact (fun _ h => nomatch h) | apply And.intro)) (by repeat' (first | exact trivial | assumption | exact flat_no _ | exact (fun _ h => nomatch h) | apply And.intro)) fun S q pc hS hq hC hE => ?_
 conv => whnf
 refine sym_loop hE hS (A := Nat) [1] (fun i => [(3, nv i)]) (fun _ => []) (fun i => i ≤ l.length ∧ ∀ j, j < i → tth (gi l j)) (fun i => l.length - i) 0 rfl rfl (by refine ⟨rfl, rfl, rfl, rfl, ?_, ?_⟩ <;> repeat' (first | exact trivial | exact rfl | exact Nat.zero_le _ | exact bdl_no ll | exact Nat.le_of_ble_eq_true rfl | exact bdl_no (by assumption) | exact bdl_no (flat_no _) | exact bdl_no (ivs_no _) | exact Nat.max_le.2 ⟨Nat.le_of_ble_eq_true rfl, bdl_no (ivs_no _)⟩ | apply And.intro)) ⟨Nat.zero_le _, fun _ h => absurd h (Nat.not_lt_zero _)⟩ ?_
 intro i ⟨hi, hj⟩
 conv => whnf
 by_cases h : i < l.length
 ·refine bool_true (ltN_t h) ?_
  conv => whnf
  refine bool_true (inR_t (i := i) (n := l.length) h) ?_
  conv => whnf
  refine plan_as (nthP (nth_ivs1 (l := l) (i := i) h)) ?_
  conv => whnf
  refine sym_pure hC (rTeeth_pure (gi l i)) ?_
  conv => whnf
  by_cases h1 : tth (gi l i)
  ·refine bool_false (nB_t h1) ?_
   conv => whnf
   exact ⟨i + 1, ⟨h, fun j hj2 => by
    by_cases e2 : j = i
    ·subst e2; exact h1
    ·exact hj j (by omega)⟩, by omega, (by refine ⟨rfl, rfl, rfl, rfl, ?_, ?_⟩ <;> repeat' (first | exact trivial | exact rfl | exact Nat.zero_le _ | exact congrArg (fun z => some (AV.int .i64 z)) (wrapN (m := i + 1) (by omega)) | exact bdl_no ll | exact Nat.le_of_ble_eq_true rfl | exact bdl_no (by assumption) | exact bdl_no (flat_no _) | exact bdl_no (ivs_no _) | exact Nat.max_le.2 ⟨Nat.le_of_ble_eq_true rfl, bdl_no (ivs_no _)⟩ | apply And.intro))⟩
  ·refine bool_true (nB_f h1) ?_
   conv => whnf
   exact ⟨_, rfl, Wk.refl _⟩
 ·exact absurd (fun j hj2 => hj j (by omega)) hb
theorem rBill_L0 {l : List Int} (hl : l.length < 4611686018427387904) (hT : allT l) {a b c s e : Int}  (h0 : ¬ (l.length ≤ 8)) : Pure prog 16 [bv (nl l) a b c s e] (.bool false) := by
 have k0 : decide ((l.length : Int) ≤ 8) = false := decide_eq_false (by omega)
 have ll := ivs_no l
 refine pure_sym hE rfl (by repeat' (first | exact trivial | assumption | exact flat_no _ | exact (fun _ h => nomatch h) | apply And.intro)) (by repeat' (first | exact trivial | assumption | exact flat_no _ | exact (fun _ h => nomatch h) | apply And.intro)) fun S q pc hS hq hC hE => ?_
 conv => whnf
 refine sym_loop hE hS (A := Nat) [1] (fun i => [(3, nv i)]) (fun _ => []) (fun i => i ≤ l.length ∧ ∀ j, j < i → tth (gi l j)) (fun i => l.length - i) 0 rfl rfl (by refine ⟨rfl, rfl, rfl, rfl, ?_, ?_⟩ <;> repeat' (first | exact trivial | exact rfl | exact Nat.zero_le _ | exact bdl_no ll | exact Nat.le_of_ble_eq_true rfl | exact bdl_no (by assumption) | exact bdl_no (flat_no _) | exact bdl_no (ivs_no _) | exact Nat.max_le.2 ⟨Nat.le_of_ble_eq_true rfl, bdl_no (ivs_no _)⟩ | apply And.intro)) ⟨Nat.zero_le _, fun _ h => absurd h (Nat.not_lt_zero _)⟩ ?_
 intro i ⟨hi, hj⟩
 conv => whnf
 by_cases h : i < l.length
 ·refine bool_true (ltN_t h) ?_
  conv => whnf
  refine bool_true (inR_t (i := i) (n := l.length) h) ?_
  conv => whnf
  refine plan_as (nthP (nth_ivs1 (l := l) (i := i) h)) ?_
  conv => whnf
  refine sym_pure hC (rTeeth_pure (gi l i)) ?_
  conv => whnf
  by_cases h1 : tth (gi l i)
  ·refine bool_false (nB_t h1) ?_
   conv => whnf
   exact ⟨i + 1, ⟨h, fun j hj2 => by
    by_cases e2 : j = i
    ·subst e2; exact h1
    ·exact hj j (by omega)⟩, by omega, (by refine ⟨rfl, rfl, rfl, rfl, ?_, ?_⟩ <;> repeat' (first | exact trivial | exact rfl | exact Nat.zero_le _ | exact congrArg (fun z => some (AV.int .i64 z)) (wrapN (m := i + 1) (by omega)) | exact bdl_no ll | exact Nat.le_of_ble_eq_true rfl | exact bdl_no (by assumption) | exact bdl_no (flat_no _) | exact bdl_no (ivs_no _) | exact Nat.max_le.2 ⟨Nat.le_of_ble_eq_true rfl, bdl_no (ivs_no _)⟩ | apply And.intro))⟩
  ·refine bool_true (nB_f h1) ?_
   conv => whnf
   exact absurd (hT i h) h1
 ·refine bool_false (ltN_f h) ?_
  conv => whnf
  repeat ((first
   |refine ko_sT k0 ?_
   |refine ko_rF k0 ?_
   |refine plan_as (pick_f k0) ?_
   |refine bool_false k0 ?_
   |refine sym_pure hC (in9_pure a 0 1000) ?_
   |refine sym_pure hC (in9_pure b 0 40) ?_
   |refine sym_pure hC (in9_pure c 0 100) ?_
   |refine sym_pure hC (in9_pure s 0 100) ?_
   |refine sym_pure hC (in9_pure e 0 1000000) ?_
   |refine sym_drawn hS (by kernel_rfl) ?_); conv => whnf)
  exact ⟨_, rfl, Wk.refl _⟩
theorem rBill_L1 {l : List Int} (hl : l.length < 4611686018427387904) (hT : allT l) {a b c s e : Int} (h0 : l.length ≤ 8) (h1 : ¬ (0 ≤ a ∧ a ≤ 1000)) : Pure prog 16 [bv (nl l) a b c s e] (.bool false) := by
 have k0 : decide ((l.length : Int) ≤ 8) = true := decide_eq_true (by omega)
 have k1 : decide (0 ≤ a ∧ a ≤ 1000) = false := decide_eq_false h1
 have ll := ivs_no l
 refine pure_sym hE rfl (by repeat' (first | exact trivial | assumption | exact flat_no _ | exact (fun _ h => nomatch h) | apply And.intro)) (by repeat' (first | exact trivial | assumption | exact flat_no _ | exact (fun _ h => nomatch h) | apply And.intro)) fun S q pc hS hq hC hE => ?_
 conv => whnf
 refine sym_loop hE hS (A := Nat) [1] (fun i => [(3, nv i)]) (fun _ => []) (fun i => i ≤ l.length ∧ ∀ j, j < i → tth (gi l j)) (fun i => l.length - i) 0 rfl rfl (by refine ⟨rfl, rfl, rfl, rfl, ?_, ?_⟩ <;> repeat' (first | exact trivial | exact rfl | exact Nat.zero_le _ | exact bdl_no ll | exact Nat.le_of_ble_eq_true rfl | exact bdl_no (by assumption) | exact bdl_no (flat_no _) | exact bdl_no (ivs_no _) | exact Nat.max_le.2 ⟨Nat.le_of_ble_eq_true rfl, bdl_no (ivs_no _)⟩ | apply And.intro)) ⟨Nat.zero_le _, fun _ h => absurd h (Nat.not_lt_zero _)⟩ ?_
 intro i ⟨hi, hj⟩
 conv => whnf
 by_cases h : i < l.length
 ·refine bool_true (ltN_t h) ?_
  conv => whnf
  refine bool_true (inR_t (i := i) (n := l.length) h) ?_
  conv => whnf
  refine plan_as (nthP (nth_ivs1 (l := l) (i := i) h)) ?_
  conv => whnf
  refine sym_pure hC (rTeeth_pure (gi l i)) ?_
  conv => whnf
  by_cases h1 : tth (gi l i)
  ·refine bool_false (nB_t h1) ?_
   conv => whnf
   exact ⟨i + 1, ⟨h, fun j hj2 => by
    by_cases e2 : j = i
    ·subst e2; exact h1
    ·exact hj j (by omega)⟩, by omega, (by refine ⟨rfl, rfl, rfl, rfl, ?_, ?_⟩ <;> repeat' (first | exact trivial | exact rfl | exact Nat.zero_le _ | exact congrArg (fun z => some (AV.int .i64 z)) (wrapN (m := i + 1) (by omega)) | exact bdl_no ll | exact Nat.le_of_ble_eq_true rfl | exact bdl_no (by assumption) | exact bdl_no (flat_no _) | exact bdl_no (ivs_no _) | exact Nat.max_le.2 ⟨Nat.le_of_ble_eq_true rfl, bdl_no (ivs_no _)⟩ | apply And.intro))⟩
  ·refine bool_true (nB_f h1) ?_
   conv => whnf
   exact absurd (hT i h) h1
 ·refine bool_false (ltN_f h) ?_
  conv => whnf
  repeat ((first
   |refine ko_rT k0 ?_
   |refine ko_sF k0 ?_
   |refine plan_as (pick_t k0) ?_
   |refine bool_true k0 ?_
   |refine ko_sT k1 ?_
   |refine ko_rF k1 ?_
   |refine plan_as (pick_f k1) ?_
   |refine bool_false k1 ?_
   |refine sym_pure hC (in9_pure a 0 1000) ?_
   |refine sym_pure hC (in9_pure b 0 40) ?_
   |refine sym_pure hC (in9_pure c 0 100) ?_
   |refine sym_pure hC (in9_pure s 0 100) ?_
   |refine sym_pure hC (in9_pure e 0 1000000) ?_
   |refine sym_drawn hS (by kernel_rfl) ?_); conv => whnf)
  exact ⟨_, rfl, Wk.refl _⟩
theorem rBill_L2 {l : List Int} (hl : l.length < 4611686018427387904) (hT : allT l) {a b c s e : Int} (h0 : l.length ≤ 8) (h1 : 0 ≤ a ∧ a ≤ 1000) (h2 : ¬ (0 ≤ b ∧ b ≤ 40)) : Pure prog 16 [bv (nl l) a b c s e] (.bool false) := by
 have k0 : decide ((l.length : Int) ≤ 8) = true := decide_eq_true (by omega)
 have k1 : decide (0 ≤ a ∧ a ≤ 1000) = true := decide_eq_true h1
 have k2 : decide (0 ≤ b ∧ b ≤ 40) = false := decide_eq_false h2
 have ll := ivs_no l
 refine pure_sym hE rfl (by repeat' (first | exact trivial | assumption | exact flat_no _ | exact (fun _ h => nomatch h) | apply And.intro)) (by repeat' (first | exact trivial | assumption | exact flat_no _ | exact (fun _ h => nomatch h) | apply And.intro)) fun S q pc hS hq hC hE => ?_
 conv => whnf
 refine sym_loop hE hS (A := Nat) [1] (fun i => [(3, nv i)]) (fun _ => []) (fun i => i ≤ l.length ∧ ∀ j, j < i → tth (gi l j)) (fun i => l.length - i) 0 rfl rfl (by refine ⟨rfl, rfl, rfl, rfl, ?_, ?_⟩ <;> repeat' (first | exact trivial | exact rfl | exact Nat.zero_le _ | exact bdl_no ll | exact Nat.le_of_ble_eq_true rfl | exact bdl_no (by assumption) | exact bdl_no (flat_no _) | exact bdl_no (ivs_no _) | exact Nat.max_le.2 ⟨Nat.le_of_ble_eq_true rfl, bdl_no (ivs_no _)⟩ | apply And.intro)) ⟨Nat.zero_le _, fun _ h => absurd h (Nat.not_lt_zero _)⟩ ?_
 intro i ⟨hi, hj⟩
 conv => whnf
 by_cases h : i < l.length
 ·refine bool_true (ltN_t h) ?_
  conv => whnf
  refine bool_true (inR_t (i := i) (n := l.length) h) ?_
  conv => whnf
  refine plan_as (nthP (nth_ivs1 (l := l) (i := i) h)) ?_
  conv => whnf
  refine sym_pure hC (rTeeth_pure (gi l i)) ?_
  conv => whnf
  by_cases h1 : tth (gi l i)
  ·refine bool_false (nB_t h1) ?_
   conv => whnf
   exact ⟨i + 1, ⟨h, fun j hj2 => by
    by_cases e2 : j = i
    ·subst e2; exact h1
    ·exact hj j (by omega)⟩, by omega, (by refine ⟨rfl, rfl, rfl, rfl, ?_, ?_⟩ <;> repeat' (first | exact trivial | exact rfl | exact Nat.zero_le _ | exact congrArg (fun z => some (AV.int .i64 z)) (wrapN (m := i + 1) (by omega)) | exact bdl_no ll | exact Nat.le_of_ble_eq_true rfl | exact bdl_no (by assumption) | exact bdl_no (flat_no _) | exact bdl_no (ivs_no _) | exact Nat.max_le.2 ⟨Nat.le_of_ble_eq_true rfl, bdl_no (ivs_no _)⟩ | apply And.intro))⟩
  ·refine bool_true (nB_f h1) ?_
   conv => whnf
   exact absurd (hT i h) h1
 ·refine bool_false (ltN_f h) ?_
  conv => whnf
  repeat ((first
   |refine ko_rT k0 ?_
   |refine ko_sF k0 ?_
   |refine plan_as (pick_t k0) ?_
   |refine bool_true k0 ?_
   |refine ko_rT k1 ?_
   |refine ko_sF k1 ?_
   |refine plan_as (pick_t k1) ?_
   |refine bool_true k1 ?_
   |refine ko_sT k2 ?_
   |refine ko_rF k2 ?_
   |refine plan_as (pick_f k2) ?_
   |refine bool_false k2 ?_
   |refine sym_pure hC (in9_pure a 0 1000) ?_
   |refine sym_pure hC (in9_pure b 0 40) ?_
   |refine sym_pure hC (in9_pure c 0 100) ?_
   |refine sym_pure hC (in9_pure s 0 100) ?_
   |refine sym_pure hC (in9_pure e 0 1000000) ?_
   |refine sym_drawn hS (by kernel_rfl) ?_); conv => whnf)
  exact ⟨_, rfl, Wk.refl _⟩
theorem rBill_L3 {l : List Int} (hl : l.length < 4611686018427387904) (hT : allT l) {a b c s e : Int} (h0 : l.length ≤ 8) (h1 : 0 ≤ a ∧ a ≤ 1000) (h2 : 0 ≤ b ∧ b ≤ 40) (h3 : ¬ (0 ≤ c ∧ c ≤ 100)) : Pure prog 16 [bv (nl l) a b c s e] (.bool false) := by
 have k0 : decide ((l.length : Int) ≤ 8) = true := decide_eq_true (by omega)
 have k1 : decide (0 ≤ a ∧ a ≤ 1000) = true := decide_eq_true h1
 have k2 : decide (0 ≤ b ∧ b ≤ 40) = true := decide_eq_true h2
 have k3 : decide (0 ≤ c ∧ c ≤ 100) = false := decide_eq_false h3
 have ll := ivs_no l
 refine pure_sym hE rfl (by repeat' (first | exact trivial | assumption | exact flat_no _ | exact (fun _ h => nomatch h) | apply And.intro)) (by repeat' (first | exact trivial | assumption | exact flat_no _ | exact (fun _ h => nomatch h) | apply And.intro)) fun S q pc hS hq hC hE => ?_
 conv => whnf
 refine sym_loop hE hS (A := Nat) [1] (fun i => [(3, nv i)]) (fun _ => []) (fun i => i ≤ l.length ∧ ∀ j, j < i → tth (gi l j)) (fun i => l.length - i) 0 rfl rfl (by refine ⟨rfl, rfl, rfl, rfl, ?_, ?_⟩ <;> repeat' (first | exact trivial | exact rfl | exact Nat.zero_le _ | exact bdl_no ll | exact Nat.le_of_ble_eq_true rfl | exact bdl_no (by assumption) | exact bdl_no (flat_no _) | exact bdl_no (ivs_no _) | exact Nat.max_le.2 ⟨Nat.le_of_ble_eq_true rfl, bdl_no (ivs_no _)⟩ | apply And.intro)) ⟨Nat.zero_le _, fun _ h => absurd h (Nat.not_lt_zero _)⟩ ?_
 intro i ⟨hi, hj⟩
 conv => whnf
 by_cases h : i < l.length
 ·refine bool_true (ltN_t h) ?_
  conv => whnf
  refine bool_true (inR_t (i := i) (n := l.length) h) ?_
  conv => whnf
  refine plan_as (nthP (nth_ivs1 (l := l) (i := i) h)) ?_
  conv => whnf
  refine sym_pure hC (rTeeth_pure (gi l i)) ?_
  conv => whnf
  by_cases h1 : tth (gi l i)
  ·refine bool_false (nB_t h1) ?_
   conv => whnf
   exact ⟨i + 1, ⟨h, fun j hj2 => by
    by_cases e2 : j = i
    ·subst e2; exact h1
    ·exact hj j (by omega)⟩, by omega, (by refine ⟨rfl, rfl, rfl, rfl, ?_, ?_⟩ <;> repeat' (first | exact trivial | exact rfl | exact Nat.zero_le _ | exact congrArg (fun z => some (AV.int .i64 z)) (wrapN (m := i + 1) (by omega)) | exact bdl_no ll | exact Nat.le_of_ble_eq_true rfl | exact bdl_no (by assumption) | exact bdl_no (flat_no _) | exact bdl_no (ivs_no _) | exact Nat.max_le.2 ⟨Nat.le_of_ble_eq_true rfl, bdl_no (ivs_no _)⟩ | apply And.intro))⟩
  ·refine bool_true (nB_f h1) ?_
   conv => whnf
   exact absurd (hT i h) h1
 ·refine bool_false (ltN_f h) ?_
  conv => whnf
  repeat ((first
   |refine ko_rT k0 ?_
   |refine ko_sF k0 ?_
   |refine plan_as (pick_t k0) ?_
   |refine bool_true k0 ?_
   |refine ko_rT k1 ?_
   |refine ko_sF k1 ?_
   |refine plan_as (pick_t k1) ?_
   |refine bool_true k1 ?_
   |refine ko_rT k2 ?_
   |refine ko_sF k2 ?_
   |refine plan_as (pick_t k2) ?_
   |refine bool_true k2 ?_
   |refine ko_sT k3 ?_
   |refine ko_rF k3 ?_
   |refine plan_as (pick_f k3) ?_
   |refine bool_false k3 ?_
   |refine sym_pure hC (in9_pure a 0 1000) ?_
   |refine sym_pure hC (in9_pure b 0 40) ?_
   |refine sym_pure hC (in9_pure c 0 100) ?_
   |refine sym_pure hC (in9_pure s 0 100) ?_
   |refine sym_pure hC (in9_pure e 0 1000000) ?_
   |refine sym_drawn hS (by kernel_rfl) ?_); conv => whnf)
  exact ⟨_, rfl, Wk.refl _⟩
theorem rBill_L4 {l : List Int} (hl : l.length < 4611686018427387904) (hT : allT l) {a b c s e : Int} (h0 : l.length ≤ 8) (h1 : 0 ≤ a ∧ a ≤ 1000) (h2 : 0 ≤ b ∧ b ≤ 40) (h3 : 0 ≤ c ∧ c ≤ 100) (h4 : ¬ (0 ≤ s ∧ s ≤ 100)) : Pure prog 16 [bv (nl l) a b c s e] (.bool false) := by
 have k0 : decide ((l.length : Int) ≤ 8) = true := decide_eq_true (by omega)
 have k1 : decide (0 ≤ a ∧ a ≤ 1000) = true := decide_eq_true h1
 have k2 : decide (0 ≤ b ∧ b ≤ 40) = true := decide_eq_true h2
 have k3 : decide (0 ≤ c ∧ c ≤ 100) = true := decide_eq_true h3
 have k4 : decide (0 ≤ s ∧ s ≤ 100) = false := decide_eq_false h4
 have ll := ivs_no l
 refine pure_sym hE rfl (by repeat' (first | exact trivial | assumption | exact flat_no _ | exact (fun _ h => nomatch h) | apply And.intro)) (by repeat' (first | exact trivial | assumption | exact flat_no _ | exact (fun _ h => nomatch h) | apply And.intro)) fun S q pc hS hq hC hE => ?_
 conv => whnf
 refine sym_loop hE hS (A := Nat) [1] (fun i => [(3, nv i)]) (fun _ => []) (fun i => i ≤ l.length ∧ ∀ j, j < i → tth (gi l j)) (fun i => l.length - i) 0 rfl rfl (by refine ⟨rfl, rfl, rfl, rfl, ?_, ?_⟩ <;> repeat' (first | exact trivial | exact rfl | exact Nat.zero_le _ | exact bdl_no ll | exact Nat.le_of_ble_eq_true rfl | exact bdl_no (by assumption) | exact bdl_no (flat_no _) | exact bdl_no (ivs_no _) | exact Nat.max_le.2 ⟨Nat.le_of_ble_eq_true rfl, bdl_no (ivs_no _)⟩ | apply And.intro)) ⟨Nat.zero_le _, fun _ h => absurd h (Nat.not_lt_zero _)⟩ ?_
 intro i ⟨hi, hj⟩
 conv => whnf
 by_cases h : i < l.length
 ·refine bool_true (ltN_t h) ?_
  conv => whnf
  refine bool_true (inR_t (i := i) (n := l.length) h) ?_
  conv => whnf
  refine plan_as (nthP (nth_ivs1 (l := l) (i := i) h)) ?_
  conv => whnf
  refine sym_pure hC (rTeeth_pure (gi l i)) ?_
  conv => whnf
  by_cases h1 : tth (gi l i)
  ·refine bool_false (nB_t h1) ?_
   conv => whnf
   exact ⟨i + 1, ⟨h, fun j hj2 => by
    by_cases e2 : j = i
    ·subst e2; exact h1
    ·exact hj j (by omega)⟩, by omega, (by refine ⟨rfl, rfl, rfl, rfl, ?_, ?_⟩ <;> repeat' (first | exact trivial | exact rfl | exact Nat.zero_le _ | exact congrArg (fun z => some (AV.int .i64 z)) (wrapN (m := i + 1) (by omega)) | exact bdl_no ll | exact Nat.le_of_ble_eq_true rfl | exact bdl_no (by assumption) | exact bdl_no (flat_no _) | exact bdl_no (ivs_no _) | exact Nat.max_le.2 ⟨Nat.le_of_ble_eq_true rfl, bdl_no (ivs_no _)⟩ | apply And.intro))⟩
  ·refine bool_true (nB_f h1) ?_
   conv => whnf
   exact absurd (hT i h) h1
 ·refine bool_false (ltN_f h) ?_
  conv => whnf
  repeat ((first
   |refine ko_rT k0 ?_
   |refine ko_sF k0 ?_
   |refine plan_as (pick_t k0) ?_
   |refine bool_true k0 ?_
   |refine ko_rT k1 ?_
   |refine ko_sF k1 ?_
   |refine plan_as (pick_t k1) ?_
   |refine bool_true k1 ?_
   |refine ko_rT k2 ?_
   |refine ko_sF k2 ?_
   |refine plan_as (pick_t k2) ?_
   |refine bool_true k2 ?_
   |refine ko_rT k3 ?_
   |refine ko_sF k3 ?_
   |refine plan_as (pick_t k3) ?_
   |refine bool_true k3 ?_
   |refine ko_sT k4 ?_
   |refine ko_rF k4 ?_
   |refine plan_as (pick_f k4) ?_
   |refine bool_false k4 ?_
   |refine sym_pure hC (in9_pure a 0 1000) ?_
   |refine sym_pure hC (in9_pure b 0 40) ?_
   |refine sym_pure hC (in9_pure c 0 100) ?_
   |refine sym_pure hC (in9_pure s 0 100) ?_
   |refine sym_pure hC (in9_pure e 0 1000000) ?_
   |refine sym_drawn hS (by kernel_rfl) ?_); conv => whnf)
  exact ⟨_, rfl, Wk.refl _⟩
theorem rBill_L5 {l : List Int} (hl : l.length < 4611686018427387904) (hT : allT l) {a b c s e : Int} (h0 : l.length ≤ 8) (h1 : 0 ≤ a ∧ a ≤ 1000) (h2 : 0 ≤ b ∧ b ≤ 40) (h3 : 0 ≤ c ∧ c ≤ 100) (h4 : 0 ≤ s ∧ s ≤ 100) (h5 : ¬ (0 ≤ e ∧ e ≤ 1000000)) : Pure prog 16 [bv (nl l) a b c s e] (.bool false) := by
 have k0 : decide ((l.length : Int) ≤ 8) = true := decide_eq_true (by omega)
 have k1 : decide (0 ≤ a ∧ a ≤ 1000) = true := decide_eq_true h1
 have k2 : decide (0 ≤ b ∧ b ≤ 40) = true := decide_eq_true h2
 have k3 : decide (0 ≤ c ∧ c ≤ 100) = true := decide_eq_true h3
 have k4 : decide (0 ≤ s ∧ s ≤ 100) = true := decide_eq_true h4
 have k5 : decide (0 ≤ e ∧ e ≤ 1000000) = false := decide_eq_false h5
 have ll := ivs_no l
 refine pure_sym hE rfl (by repeat' (first | exact trivial | assumption | exact flat_no _ | exact (fun _ h => nomatch h) | apply And.intro)) (by repeat' (first | exact trivial | assumption | exact flat_no _ | exact (fun _ h => nomatch h) | apply And.intro)) fun S q pc hS hq hC hE => ?_
 conv => whnf
 refine sym_loop hE hS (A := Nat) [1] (fun i => [(3, nv i)]) (fun _ => []) (fun i => i ≤ l.length ∧ ∀ j, j < i → tth (gi l j)) (fun i => l.length - i) 0 rfl rfl (by refine ⟨rfl, rfl, rfl, rfl, ?_, ?_⟩ <;> repeat' (first | exact trivial | exact rfl | exact Nat.zero_le _ | exact bdl_no ll | exact Nat.le_of_ble_eq_true rfl | exact bdl_no (by assumption) | exact bdl_no (flat_no _) | exact bdl_no (ivs_no _) | exact Nat.max_le.2 ⟨Nat.le_of_ble_eq_true rfl, bdl_no (ivs_no _)⟩ | apply And.intro)) ⟨Nat.zero_le _, fun _ h => absurd h (Nat.not_lt_zero _)⟩ ?_
 intro i ⟨hi, hj⟩
 conv => whnf
 by_cases h : i < l.length
 ·refine bool_true (ltN_t h) ?_
  conv => whnf
  refine bool_true (inR_t (i := i) (n := l.length) h) ?_
  conv => whnf
  refine plan_as (nthP (nth_ivs1 (l := l) (i := i) h)) ?_
  conv => whnf
  refine sym_pure hC (rTeeth_pure (gi l i)) ?_
  conv => whnf
  by_cases h1 : tth (gi l i)
  ·refine bool_false (nB_t h1) ?_
   conv => whnf
   exact ⟨i + 1, ⟨h, fun j hj2 => by
    by_cases e2 : j = i
    ·subst e2; exact h1
    ·exact hj j (by omega)⟩, by omega, (by refine ⟨rfl, rfl, rfl, rfl, ?_, ?_⟩ <;> repeat' (first | exact trivial | exact rfl | exact Nat.zero_le _ | exact congrArg (fun z => some (AV.int .i64 z)) (wrapN (m := i + 1) (by omega)) | exact bdl_no ll | exact Nat.le_of_ble_eq_true rfl | exact bdl_no (by assumption) | exact bdl_no (flat_no _) | exact bdl_no (ivs_no _) | exact Nat.max_le.2 ⟨Nat.le_of_ble_eq_true rfl, bdl_no (ivs_no _)⟩ | apply And.intro))⟩
  ·refine bool_true (nB_f h1) ?_
   conv => whnf
   exact absurd (hT i h) h1
 ·refine bool_false (ltN_f h) ?_
  conv => whnf
  repeat ((first
   |refine ko_rT k0 ?_
   |refine ko_sF k0 ?_
   |refine plan_as (pick_t k0) ?_
   |refine bool_true k0 ?_
   |refine ko_rT k1 ?_
   |refine ko_sF k1 ?_
   |refine plan_as (pick_t k1) ?_
   |refine bool_true k1 ?_
   |refine ko_rT k2 ?_
   |refine ko_sF k2 ?_
   |refine plan_as (pick_t k2) ?_
   |refine bool_true k2 ?_
   |refine ko_rT k3 ?_
   |refine ko_sF k3 ?_
   |refine plan_as (pick_t k3) ?_
   |refine bool_true k3 ?_
   |refine ko_rT k4 ?_
   |refine ko_sF k4 ?_
   |refine plan_as (pick_t k4) ?_
   |refine bool_true k4 ?_
   |refine ko_sT k5 ?_
   |refine ko_rF k5 ?_
   |refine plan_as (pick_f k5) ?_
   |refine bool_false k5 ?_
   |refine sym_pure hC (in9_pure a 0 1000) ?_
   |refine sym_pure hC (in9_pure b 0 40) ?_
   |refine sym_pure hC (in9_pure c 0 100) ?_
   |refine sym_pure hC (in9_pure s 0 100) ?_
   |refine sym_pure hC (in9_pure e 0 1000000) ?_
   |refine sym_drawn hS (by kernel_rfl) ?_); conv => whnf)
  exact ⟨_, rfl, wkb k5⟩
theorem rBill_L6 {l : List Int} (hl : l.length < 4611686018427387904) (hT : allT l) {a b c s e : Int} (h0 : l.length ≤ 8) (h1 : 0 ≤ a ∧ a ≤ 1000) (h2 : 0 ≤ b ∧ b ≤ 40) (h3 : 0 ≤ c ∧ c ≤ 100) (h4 : 0 ≤ s ∧ s ≤ 100) (h5 : 0 ≤ e ∧ e ≤ 1000000) : Pure prog 16 [bv (nl l) a b c s e] (.bool true) := by
 have k0 : decide ((l.length : Int) ≤ 8) = true := decide_eq_true (by omega)
 have k1 : decide (0 ≤ a ∧ a ≤ 1000) = true := decide_eq_true h1
 have k2 : decide (0 ≤ b ∧ b ≤ 40) = true := decide_eq_true h2
 have k3 : decide (0 ≤ c ∧ c ≤ 100) = true := decide_eq_true h3
 have k4 : decide (0 ≤ s ∧ s ≤ 100) = true := decide_eq_true h4
 have k5 : decide (0 ≤ e ∧ e ≤ 1000000) = true := decide_eq_true h5
 have ll := ivs_no l
 refine pure_sym hE rfl (by repeat' (first | exact trivial | assumption | exact flat_no _ | exact (fun _ h => nomatch h) | apply And.intro)) (by repeat' (first | exact trivial | assumption | exact flat_no _ | exact (fun _ h => nomatch h) | apply And.intro)) fun S q pc hS hq hC hE => ?_
 conv => whnf
 refine sym_loop hE hS (A := Nat) [1] (fun i => [(3, nv i)]) (fun _ => []) (fun i => i ≤ l.length ∧ ∀ j, j < i → tth (gi l j)) (fun i => l.length - i) 0 rfl rfl (by refine ⟨rfl, rfl, rfl, rfl, ?_, ?_⟩ <;> repeat' (first | exact trivial | exact rfl | exact Nat.zero_le _ | exact bdl_no ll | exact Nat.le_of_ble_eq_true rfl | exact bdl_no (by assumption) | exact bdl_no (flat_no _) | exact bdl_no (ivs_no _) | exact Nat.max_le.2 ⟨Nat.le_of_ble_eq_true rfl, bdl_no (ivs_no _)⟩ | apply And.intro)) ⟨Nat.zero_le _, fun _ h => absurd h (Nat.not_lt_zero _)⟩ ?_
 intro i ⟨hi, hj⟩
 conv => whnf
 by_cases h : i < l.length
 ·refine bool_true (ltN_t h) ?_
  conv => whnf
  refine bool_true (inR_t (i := i) (n := l.length) h) ?_
  conv => whnf
  refine plan_as (nthP (nth_ivs1 (l := l) (i := i) h)) ?_
  conv => whnf
  refine sym_pure hC (rTeeth_pure (gi l i)) ?_
  conv => whnf
  by_cases h1 : tth (gi l i)
  ·refine bool_false (nB_t h1) ?_
   conv => whnf
   exact ⟨i + 1, ⟨h, fun j hj2 => by
    by_cases e2 : j = i
    ·subst e2; exact h1
    ·exact hj j (by omega)⟩, by omega, (by refine ⟨rfl, rfl, rfl, rfl, ?_, ?_⟩ <;> repeat' (first | exact trivial | exact rfl | exact Nat.zero_le _ | exact congrArg (fun z => some (AV.int .i64 z)) (wrapN (m := i + 1) (by omega)) | exact bdl_no ll | exact Nat.le_of_ble_eq_true rfl | exact bdl_no (by assumption) | exact bdl_no (flat_no _) | exact bdl_no (ivs_no _) | exact Nat.max_le.2 ⟨Nat.le_of_ble_eq_true rfl, bdl_no (ivs_no _)⟩ | apply And.intro))⟩
  ·refine bool_true (nB_f h1) ?_
   conv => whnf
   exact absurd (hT i h) h1
 ·refine bool_false (ltN_f h) ?_
  conv => whnf
  repeat ((first
   |refine ko_rT k0 ?_
   |refine ko_sF k0 ?_
   |refine plan_as (pick_t k0) ?_
   |refine bool_true k0 ?_
   |refine ko_rT k1 ?_
   |refine ko_sF k1 ?_
   |refine plan_as (pick_t k1) ?_
   |refine bool_true k1 ?_
   |refine ko_rT k2 ?_
   |refine ko_sF k2 ?_
   |refine plan_as (pick_t k2) ?_
   |refine bool_true k2 ?_
   |refine ko_rT k3 ?_
   |refine ko_sF k3 ?_
   |refine plan_as (pick_t k3) ?_
   |refine bool_true k3 ?_
   |refine ko_rT k4 ?_
   |refine ko_sF k4 ?_
   |refine plan_as (pick_t k4) ?_
   |refine bool_true k4 ?_
   |refine ko_rT k5 ?_
   |refine ko_sF k5 ?_
   |refine plan_as (pick_t k5) ?_
   |refine bool_true k5 ?_
   |refine sym_pure hC (in9_pure a 0 1000) ?_
   |refine sym_pure hC (in9_pure b 0 40) ?_
   |refine sym_pure hC (in9_pure c 0 100) ?_
   |refine sym_pure hC (in9_pure s 0 100) ?_
   |refine sym_pure hC (in9_pure e 0 1000000) ?_
   |refine sym_drawn hS (by kernel_rfl) ?_); conv => whnf)
  exact ⟨_, rfl, wkb k5⟩
theorem rBill_N1 {a b c s e : Int} (h1 : ¬ (0 ≤ a ∧ a ≤ 1000)) : Pure prog 16 [bv (.nils) a b c s e] (.bool false) := by
 have k1 : decide (0 ≤ a ∧ a ≤ 1000) = false := decide_eq_false h1
 refine pure_sym hE rfl (by repeat' (first | exact trivial | assumption | exact flat_no _ | exact (fun _ h => nomatch h) | apply And.intro)) (by repeat' (first | exact trivial | assumption | exact flat_no _ | exact (fun _ h => nomatch h) | apply And.intro)) fun S q pc hS hq hC hE => ?_
 conv => whnf
 refine sym_unroll hE hS ?_
 conv => whnf
 repeat ((first
  |refine ko_sT k1 ?_
  |refine ko_rF k1 ?_
  |refine plan_as (pick_f k1) ?_
  |refine bool_false k1 ?_
  |refine sym_pure hC (in9_pure a 0 1000) ?_
  |refine sym_pure hC (in9_pure b 0 40) ?_
  |refine sym_pure hC (in9_pure c 0 100) ?_
  |refine sym_pure hC (in9_pure s 0 100) ?_
  |refine sym_pure hC (in9_pure e 0 1000000) ?_
  |refine sym_drawn hS (by kernel_rfl) ?_); conv => whnf)
 exact ⟨_, rfl, Wk.refl _⟩
theorem rBill_N2 {a b c s e : Int} (h1 : 0 ≤ a ∧ a ≤ 1000) (h2 : ¬ (0 ≤ b ∧ b ≤ 40)) : Pure prog 16 [bv (.nils) a b c s e] (.bool false) := by
 have k1 : decide (0 ≤ a ∧ a ≤ 1000) = true := decide_eq_true h1
 have k2 : decide (0 ≤ b ∧ b ≤ 40) = false := decide_eq_false h2
 refine pure_sym hE rfl (by repeat' (first | exact trivial | assumption | exact flat_no _ | exact (fun _ h => nomatch h) | apply And.intro)) (by repeat' (first | exact trivial | assumption | exact flat_no _ | exact (fun _ h => nomatch h) | apply And.intro)) fun S q pc hS hq hC hE => ?_
 conv => whnf
 refine sym_unroll hE hS ?_
 conv => whnf
 repeat ((first
  |refine ko_rT k1 ?_
  |refine ko_sF k1 ?_
  |refine plan_as (pick_t k1) ?_
  |refine bool_true k1 ?_
  |refine ko_sT k2 ?_
  |refine ko_rF k2 ?_
  |refine plan_as (pick_f k2) ?_
  |refine bool_false k2 ?_
  |refine sym_pure hC (in9_pure a 0 1000) ?_
  |refine sym_pure hC (in9_pure b 0 40) ?_
  |refine sym_pure hC (in9_pure c 0 100) ?_
  |refine sym_pure hC (in9_pure s 0 100) ?_
  |refine sym_pure hC (in9_pure e 0 1000000) ?_
  |refine sym_drawn hS (by kernel_rfl) ?_); conv => whnf)
 exact ⟨_, rfl, Wk.refl _⟩
theorem rBill_N3 {a b c s e : Int} (h1 : 0 ≤ a ∧ a ≤ 1000) (h2 : 0 ≤ b ∧ b ≤ 40) (h3 : ¬ (0 ≤ c ∧ c ≤ 100)) : Pure prog 16 [bv (.nils) a b c s e] (.bool false) := by
 have k1 : decide (0 ≤ a ∧ a ≤ 1000) = true := decide_eq_true h1
 have k2 : decide (0 ≤ b ∧ b ≤ 40) = true := decide_eq_true h2
 have k3 : decide (0 ≤ c ∧ c ≤ 100) = false := decide_eq_false h3
 refine pure_sym hE rfl (by repeat' (first | exact trivial | assumption | exact flat_no _ | exact (fun _ h => nomatch h) | apply And.intro)) (by repeat' (first | exact trivial | assumption | exact flat_no _ | exact (fun _ h => nomatch h) | apply And.intro)) fun S q pc hS hq hC hE => ?_
 conv => whnf
 refine sym_unroll hE hS ?_
 conv => whnf
 repeat ((first
  |refine ko_rT k1 ?_
  |refine ko_sF k1 ?_
  |refine plan_as (pick_t k1) ?_
  |refine bool_true k1 ?_
  |refine ko_rT k2 ?_
  |refine ko_sF k2 ?_
  |refine plan_as (pick_t k2) ?_
  |refine bool_true k2 ?_
  |refine ko_sT k3 ?_
  |refine ko_rF k3 ?_
  |refine plan_as (pick_f k3) ?_
  |refine bool_false k3 ?_
  |refine sym_pure hC (in9_pure a 0 1000) ?_
  |refine sym_pure hC (in9_pure b 0 40) ?_
  |refine sym_pure hC (in9_pure c 0 100) ?_
  |refine sym_pure hC (in9_pure s 0 100) ?_
  |refine sym_pure hC (in9_pure e 0 1000000) ?_
  |refine sym_drawn hS (by kernel_rfl) ?_); conv => whnf)
 exact ⟨_, rfl, Wk.refl _⟩
theorem rBill_N4 {a b c s e : Int} (h1 : 0 ≤ a ∧ a ≤ 1000) (h2 : 0 ≤ b ∧ b ≤ 40) (h3 : 0 ≤ c ∧ c ≤ 100) (h4 : ¬ (0 ≤ s ∧ s ≤ 100)) : Pure prog 16 [bv (.nils) a b c s e] (.bool false) := by
 have k1 : decide (0 ≤ a ∧ a ≤ 1000) = true := decide_eq_true h1
 have k2 : decide (0 ≤ b ∧ b ≤ 40) = true := decide_eq_true h2
 have k3 : decide (0 ≤ c ∧ c ≤ 100) = true := decide_eq_true h3
 have k4 : decide (0 ≤ s ∧ s ≤ 100) = false := decide_eq_false h4
 refine pure_sym hE rfl (by repeat' (first | exact trivial | assumption | exact flat_no _ | exact (fun _ h => nomatch h) | apply And.intro)) (by repeat' (first | exact trivial | assumption | exact flat_no _ | exact (fun _ h => nomatch h) | apply And.intro)) fun S q pc hS hq hC hE => ?_
 conv => whnf
 refine sym_unroll hE hS ?_
 conv => whnf
 repeat ((first
  |refine ko_rT k1 ?_
  |refine ko_sF k1 ?_
  |refine plan_as (pick_t k1) ?_
  |refine bool_true k1 ?_
  |refine ko_rT k2 ?_
  |refine ko_sF k2 ?_
  |refine plan_as (pick_t k2) ?_
  |refine bool_true k2 ?_
  |refine ko_rT k3 ?_
  |refine ko_sF k3 ?_
  |refine plan_as (pick_t k3) ?_
  |refine bool_true k3 ?_
  |refine ko_sT k4 ?_
  |refine ko_rF k4 ?_
  |refine plan_as (pick_f k4) ?_
  |refine bool_false k4 ?_
  |refine sym_pure hC (in9_pure a 0 1000) ?_
  |refine sym_pure hC (in9_pure b 0 40) ?_
  |refine sym_pure hC (in9_pure c 0 100) ?_
  |refine sym_pure hC (in9_pure s 0 100) ?_
  |refine sym_pure hC (in9_pure e 0 1000000) ?_
  |refine sym_drawn hS (by kernel_rfl) ?_); conv => whnf)
 exact ⟨_, rfl, Wk.refl _⟩
theorem rBill_N5 {a b c s e : Int} (h1 : 0 ≤ a ∧ a ≤ 1000) (h2 : 0 ≤ b ∧ b ≤ 40) (h3 : 0 ≤ c ∧ c ≤ 100) (h4 : 0 ≤ s ∧ s ≤ 100) (h5 : ¬ (0 ≤ e ∧ e ≤ 1000000)) : Pure prog 16 [bv (.nils) a b c s e] (.bool false) := by
 have k1 : decide (0 ≤ a ∧ a ≤ 1000) = true := decide_eq_true h1
 have k2 : decide (0 ≤ b ∧ b ≤ 40) = true := decide_eq_true h2
 have k3 : decide (0 ≤ c ∧ c ≤ 100) = true := decide_eq_true h3
 have k4 : decide (0 ≤ s ∧ s ≤ 100) = true := decide_eq_true h4
 have k5 : decide (0 ≤ e ∧ e ≤ 1000000) = false := decide_eq_false h5
 refine pure_sym hE rfl (by repeat' (first | exact trivial | assumption | exact flat_no _ | exact (fun _ h => nomatch h) | apply And.intro)) (by repeat' (first | exact trivial | assumption | exact flat_no _ | exact (fun _ h => nomatch h) | apply And.intro)) fun S q pc hS hq hC hE => ?_
 conv => whnf
 refine sym_unroll hE hS ?_
 conv => whnf
 repeat ((first
  |refine ko_rT k1 ?_
  |refine ko_sF k1 ?_
  |refine plan_as (pick_t k1) ?_
  |refine bool_true k1 ?_
  |refine ko_rT k2 ?_
  |refine ko_sF k2 ?_
  |refine plan_as (pick_t k2) ?_
  |refine bool_true k2 ?_
  |refine ko_rT k3 ?_
  |refine ko_sF k3 ?_
  |refine plan_as (pick_t k3) ?_
  |refine bool_true k3 ?_
  |refine ko_rT k4 ?_
  |refine ko_sF k4 ?_
  |refine plan_as (pick_t k4) ?_
  |refine bool_true k4 ?_
  |refine ko_sT k5 ?_
  |refine ko_rF k5 ?_
  |refine plan_as (pick_f k5) ?_
  |refine bool_false k5 ?_
  |refine sym_pure hC (in9_pure a 0 1000) ?_
  |refine sym_pure hC (in9_pure b 0 40) ?_
  |refine sym_pure hC (in9_pure c 0 100) ?_
  |refine sym_pure hC (in9_pure s 0 100) ?_
  |refine sym_pure hC (in9_pure e 0 1000000) ?_
  |refine sym_drawn hS (by kernel_rfl) ?_); conv => whnf)
 exact ⟨_, rfl, wkb k5⟩
theorem rBill_N6 {a b c s e : Int} (h1 : 0 ≤ a ∧ a ≤ 1000) (h2 : 0 ≤ b ∧ b ≤ 40) (h3 : 0 ≤ c ∧ c ≤ 100) (h4 : 0 ≤ s ∧ s ≤ 100) (h5 : 0 ≤ e ∧ e ≤ 1000000) : Pure prog 16 [bv (.nils) a b c s e] (.bool true) := by
 have k1 : decide (0 ≤ a ∧ a ≤ 1000) = true := decide_eq_true h1
 have k2 : decide (0 ≤ b ∧ b ≤ 40) = true := decide_eq_true h2
 have k3 : decide (0 ≤ c ∧ c ≤ 100) = true := decide_eq_true h3
 have k4 : decide (0 ≤ s ∧ s ≤ 100) = true := decide_eq_true h4
 have k5 : decide (0 ≤ e ∧ e ≤ 1000000) = true := decide_eq_true h5
 refine pure_sym hE rfl (by repeat' (first | exact trivial | assumption | exact flat_no _ | exact (fun _ h => nomatch h) | apply And.intro)) (by repeat' (first | exact trivial | assumption | exact flat_no _ | exact (fun _ h => nomatch h) | apply And.intro)) fun S q pc hS hq hC hE => ?_
 conv => whnf
 refine sym_unroll hE hS ?_
 conv => whnf
 repeat ((first
  |refine ko_rT k1 ?_
  |refine ko_sF k1 ?_
  |refine plan_as (pick_t k1) ?_
  |refine bool_true k1 ?_
  |refine ko_rT k2 ?_
  |refine ko_sF k2 ?_
  |refine plan_as (pick_t k2) ?_
  |refine bool_true k2 ?_
  |refine ko_rT k3 ?_
  |refine ko_sF k3 ?_
  |refine plan_as (pick_t k3) ?_
  |refine bool_true k3 ?_
  |refine ko_rT k4 ?_
  |refine ko_sF k4 ?_
  |refine plan_as (pick_t k4) ?_
  |refine bool_true k4 ?_
  |refine ko_rT k5 ?_
  |refine ko_sF k5 ?_
  |refine plan_as (pick_t k5) ?_
  |refine bool_true k5 ?_
  |refine sym_pure hC (in9_pure a 0 1000) ?_
  |refine sym_pure hC (in9_pure b 0 40) ?_
  |refine sym_pure hC (in9_pure c 0 100) ?_
  |refine sym_pure hC (in9_pure s 0 100) ?_
  |refine sym_pure hC (in9_pure e 0 1000000) ?_
  |refine sym_drawn hS (by kernel_rfl) ?_); conv => whnf)
 exact ⟨_, rfl, wkb k5⟩
theorem rBill_pure {x : AV} {l : List Int} (h : IL x l) (hl : l.length < 4611686018427387904) (a b c s e : Int) : Pure prog 16 [bv x a b c s e] (.bool (decide (blOk l a b c s e))) := by
 have no : ¬ blOk l a b c s e → decide (blOk l a b c s e) = false := fun k => decide_eq_false k
 by_cases hT : allT l
 ·by_cases h0 : l.length ≤ 8
  ·by_cases h1 : 0 ≤ a ∧ a ≤ 1000
   ·by_cases h2 : 0 ≤ b ∧ b ≤ 40
    ·by_cases h3 : 0 ≤ c ∧ c ≤ 100
     ·by_cases h4 : 0 ≤ s ∧ s ≤ 100
      ·by_cases h5 : 0 ≤ e ∧ e ≤ 1000000
       ·rw [decide_eq_true (show blOk l a b c s e from ⟨⟨h0, hT⟩, h1, h2, h3, h4, h5⟩)]
        rcases h with ⟨rfl, rfl⟩ | rfl
        ·exact rBill_N6 h1 h2 h3 h4 h5
        ·exact rBill_L6 hl hT h0 h1 h2 h3 h4 h5
       ·rw [no fun z => h5 z.2.2.2.2.2]
        rcases h with ⟨rfl, rfl⟩ | rfl
        ·exact rBill_N5 h1 h2 h3 h4 h5
        ·exact rBill_L5 hl hT h0 h1 h2 h3 h4 h5
      ·rw [no fun z => h4 z.2.2.2.2.1]
       rcases h with ⟨rfl, rfl⟩ | rfl
       ·exact rBill_N4 h1 h2 h3 h4
       ·exact rBill_L4 hl hT h0 h1 h2 h3 h4
     ·rw [no fun z => h3 z.2.2.2.1]
      rcases h with ⟨rfl, rfl⟩ | rfl
      ·exact rBill_N3 h1 h2 h3
      ·exact rBill_L3 hl hT h0 h1 h2 h3
    ·rw [no fun z => h2 z.2.2.1]
     rcases h with ⟨rfl, rfl⟩ | rfl
     ·exact rBill_N2 h1 h2
     ·exact rBill_L2 hl hT h0 h1 h2
   ·rw [no fun z => h1 z.2.1]
    rcases h with ⟨rfl, rfl⟩ | rfl
    ·exact rBill_N1 h1
    ·exact rBill_L1 hl hT h0 h1
  ·rw [no fun z => h0 z.1.1]
   rcases h with ⟨rfl, rfl⟩ | rfl
   ·exact absurd (Nat.zero_le _) h0
   ·exact rBill_L0 hl hT h0
 ·rw [no fun z => hT z.1.2]
  rcases h with ⟨rfl, rfl⟩ | rfl
  ·exact absurd (fun _ h => absurd h (Nat.not_lt_zero _)) hT
  ·exact rBill_bad hl hT a b c s e
theorem sq_take (m : List Nat) {i : Nat} (h : i < m.length) : (sqL (m.take (i + 1))).sum = (sqL (m.take i)).sum + gn m i * gn m i := by
 rw [sqL_take m h, List.sum_append]; simp
theorem price_pure {m : List Nat} {x : AV} (h : IL x (zl m)) (hm : m.length ≤ 8) (h60 : ∀ y, y ∈ m → y ≤ 60) {a b c s e : Int} {a' b' c' s' : Nat} (ea : a = Int.ofNat a') (eb : b = Int.ofNat b') (ec : c = Int.ofNat c') (es : s = Int.ofNat s') (ha : a' ≤ 1000) (hb : b' ≤ 40) (hc : c' ≤ 100) (hs : s' ≤ 100) :
  Pure prog 17 [bv x a b c s e] (nv (prN (sqL m).sum a' b' c' s')) := by
 have hSb := sqL_sum m h60
 obtain ⟨Z, eS⟩ : ∃ Z, (sqL m).sum = Z := ⟨_, rfl⟩
 rw [eS] at hSb ⊢
 have k := coN_le (S := Z) (by omega) ha hb hc
 have k2 : coN Z a' b' c' * s' ≤ 1000000 * 100 := Nat.mul_le_mul k.2.2 hs
 rcases h with ⟨rfl, e0⟩ | rfl
 ·obtain rfl : m = [] := List.map_eq_nil_iff.1 e0
  have z0 : (0 : Int) = Int.ofNat Z := by rw [← eS]; rfl
  refine pure_sym hE rfl (by repeat' (first | exact trivial | assumption | exact flat_no _ | exact (fun _ h => nomatch h) | apply And.intro)) (by repeat' (first | exact trivial | assumption | exact flat_no _ | exact (fun _ h => nomatch h) | apply And.intro)) fun S q pc hS hq hC hE => ?_
  conv => whnf
  refine sym_unroll hE hS ?_
  conv => whnf
  rw [show IntKind.i64.wrap (0 * a) = IntKind.i64.wrap (Int.ofNat Z * a) by rw [← z0]]
  rw [show IntKind.i64.wrap (Int.ofNat Z * a) = Int.ofNat (Z * a') by rw [ea]; exact mulN (by omega)]
  refine sym_pure hC (up9_pure (Z * a') (by omega)) ?_
  conv => whnf
  rw [show IntKind.i64.wrap (b * c) = Int.ofNat (b' * c') by rw [eb, ec]; exact mulN (by omega), show IntKind.i64.wrap (Int.ofNat ((Z * a' + 99) / 100) + Int.ofNat (b' * c')) = Int.ofNat (coN Z a' b' c') from wrapN (m := coN Z a' b' c') (by omega)]
  refine sym_drawn hS (by kernel_rfl) ?_
  conv => whnf
  rw [show IntKind.i64.wrap (Int.ofNat (coN Z a' b' c') * s) = Int.ofNat (coN Z a' b' c' * s') by rw [es]; exact mulN (by omega)]
  refine sym_pure hC (up9_pure (coN Z a' b' c' * s') (by omega)) ?_
  conv => whnf
  rw [show IntKind.i64.wrap (Int.ofNat (coN Z a' b' c') + Int.ofNat ((coN Z a' b' c' * s' + 99) / 100)) = Int.ofNat (prN Z a' b' c' s') from wrapN (m := prN Z a' b' c' s') (by unfold prN; omega)]
  exact ⟨_, rfl, Wk.refl _⟩
 ·have lm := ivs_no (zl m)
  have hz := zl_len m
  refine pure_sym hE rfl (by repeat' (first | exact trivial | assumption | exact flat_no _ | exact (fun _ h => nomatch h) | apply And.intro)) (by repeat' (first | exact trivial | assumption | exact flat_no _ | exact (fun _ h => nomatch h) | apply And.intro)) fun S q pc hS hq hC hE => ?_
  conv => whnf
  refine sym_loop hE hS (A := Nat × Nat) [1] (fun (i, t) => [(3, nv t), (4, nv i)]) (fun _ => []) (fun (i, t) => i ≤ m.length ∧ t = (sqL (m.take i)).sum) (fun (i, _) => m.length - i) (0, 0) rfl rfl (by refine ⟨rfl, rfl, rfl, rfl, ?_, ?_⟩ <;> repeat' (first | exact trivial | exact rfl | exact Nat.zero_le _ | exact bdl_no lm | exact Nat.le_of_ble_eq_true rfl | exact bdl_no (by assumption) | exact bdl_no (flat_no _) | exact bdl_no (ivs_no _) | exact Nat.max_le.2 ⟨Nat.le_of_ble_eq_true rfl, bdl_no (ivs_no _)⟩ | apply And.intro)) ⟨Nat.zero_le _, rfl⟩ ?_
  rintro ⟨i, t⟩ ⟨hi, ht⟩
  conv => whnf
  by_cases hi2 : i < m.length
  ·have hiz : i < (zl m).length := by omega
   have bi := h60 _ (gn_mem m hi2)
   have bm : gn m i * gn m i ≤ 60 * 60 := Nat.mul_le_mul bi bi
   have hq := sq_take m hi2
   have hsq := sqL_sum (m.take (i + 1)) fun y hy => h60 y (List.mem_of_mem_take hy)
   have hlt : (m.take (i + 1)).length ≤ 8 := by rw [List.length_take]; omega
   have g0 : nth (ivs (zl m)) (i * 1) = some (nv (gn m i)) := by rw [nth_ivs1 hiz, gi_zl m hi2]
   refine bool_true (ltN_t hiz) ?_
   conv => whnf
   refine bool_true (inR_t hiz) ?_
   conv => whnf
   refine plan_as (nthP (g0)) ?_
   conv => whnf
   refine bool_true (inR_t hiz) ?_
   conv => whnf
   refine plan_as (nthP (g0)) ?_
   conv => whnf
   refine sym_drawn hS (by kernel_rfl) ?_
   conv => whnf
   have hs1 : IntKind.i64.wrap (Int.ofNat t + IntKind.i64.wrap (Int.ofNat (gn m i) * Int.ofNat (gn m i))) = Int.ofNat (t + gn m i * gn m i) := by
    rw [mulN (a := gn m i) (b := gn m i) (by omega)]; exact wrapN (m := t + gn m i * gn m i) (by omega)
   exact ⟨(i + 1, t + gn m i * gn m i), ⟨hi2, by rw [hq, ht]⟩, by show m.length - (i + 1) < m.length - i; omega, (by refine ⟨rfl, rfl, rfl, rfl, ?_, ?_⟩ <;> repeat' (first | exact trivial | exact rfl | exact Nat.zero_le _ | exact congrArg (fun z => some (AV.int .i64 z)) hs1 | exact congrArg (fun z => some (AV.int .i64 z)) (wrapN (m := i + 1) (by omega)) | exact bdl_no lm | exact Nat.le_of_ble_eq_true rfl | exact bdl_no (by assumption) | exact bdl_no (flat_no _) | exact bdl_no (ivs_no _) | exact Nat.max_le.2 ⟨Nat.le_of_ble_eq_true rfl, bdl_no (ivs_no _)⟩ | apply And.intro))⟩
  ·refine bool_false (ltN_f (show ¬ i < (zl m).length by omega)) ?_
   conv => whnf
   rw [List.take_of_length_le (by omega), eS] at ht
   rw [ht]
   rw [show IntKind.i64.wrap (Int.ofNat Z * a) = Int.ofNat (Z * a') by rw [ea]; exact mulN (by omega)]
   refine sym_pure hC (up9_pure (Z * a') (by omega)) ?_
   conv => whnf
   rw [show IntKind.i64.wrap (b * c) = Int.ofNat (b' * c') by rw [eb, ec]; exact mulN (by omega), show IntKind.i64.wrap (Int.ofNat ((Z * a' + 99) / 100) + Int.ofNat (b' * c')) = Int.ofNat (coN Z a' b' c') from wrapN (m := coN Z a' b' c') (by omega)]
   refine sym_drawn hS (by kernel_rfl) ?_
   conv => whnf
   rw [show IntKind.i64.wrap (Int.ofNat (coN Z a' b' c') * s) = Int.ofNat (coN Z a' b' c' * s') by rw [es]; exact mulN (by omega)]
   refine sym_pure hC (up9_pure (coN Z a' b' c' * s') (by omega)) ?_
   conv => whnf
   rw [show IntKind.i64.wrap (Int.ofNat (coN Z a' b' c') + Int.ofNat ((coN Z a' b' c' * s' + 99) / 100)) = Int.ofNat (prN Z a' b' c' s') from wrapN (m := prN Z a' b' c' s') (by unfold prN; omega)]
   exact ⟨_, rfl, Wk.refl _⟩
end
end Go.Abs.Seat
