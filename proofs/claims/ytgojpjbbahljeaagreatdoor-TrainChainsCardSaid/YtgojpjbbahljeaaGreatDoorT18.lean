/-
  The fraction of a chain: the document's.
-/
import Derived.Test.YtgojpjbbahljeaaGreatDoorT17
/-! The fraction of a chain: the document's. -/
namespace Go.Abs.Seat
open Go Go.Abs Go.Proofs.Tryz
set_option maxRecDepth 100000
set_option maxHeartbeats 4000000
attribute [local irreducible] IntKind.wrap pEq

theorem foS_pos (l : List Nat) (hp : ∀ i, 1 ≤ i → i < l.length → 1 ≤ l.getD i 0) : ∀ (s i : Nat), 1 ≤ i → i + s = l.length → 1 ≤ (foS (l.drop i)).1
  | 0, i, _, h => by rw [List.drop_eq_nil_of_le (by omega)]; exact Nat.le_refl 1
  | s + 1, i, h1, h => by
    rw [foS_drop l (by omega)]
    have h2 := foS_pos l hp s (i + 1) (by omega) (by omega)
    have h3 : 1 ≤ l.getD i 0 * (foS (l.drop (i + 1))).1 := Nat.mul_pos (hp i h1 (by omega)) h2
    simp only
    omega

theorem fo_last (l : List Nat) {k : Nat} (h : l.length = k + 1) : foS (l.drop k) = (l.getD k 0, 1) := by
  rw [foS_drop l (by omega), List.drop_eq_nil_of_le (by omega)]
  simp [foS]

theorem nth_last {l : List Nat} {k : Nat} (h : l.length = k + 1) {z : List Int} (hz : z = zl l) : nth (ivs z) (((z.length : Int) - 1).toNat * 1) = some (nv (l.getD k 0)) := by
  subst hz
  have h2 := nth_zl (l := l) (k := k) (by omega)
  rw [show (((zl l).length : Int) - 1) = (((k + 1 : Nat) : Int) - 1) by rw [zl_len, h]]
  exact h2

/-- The facts of a chain, as numbers. -/
structure ChN (l : List Nat) : Prop where
  hx : ∀ i, i < l.length → l.getD i 0 ≤ 50000
  hp : ∀ i, 1 ≤ i → i < l.length → 1 ≤ l.getD i 0
  h1 : 1 ≤ l.length ∧ l.length ≤ 24
theorem ChN.of {l : List Nat} (hc : chOk (zl l)) : ChN l := by
  have hz := zl_len l
  refine ⟨fun i hi => ?_, fun i h1 hi => ?_, by have := hc.2; omega⟩
  · have := (hc.1 i (by omega)).2
    rw [zl_gi l hi] at this
    exact Int.ofNat_le.1 this
  · have := (hc.1 i (by omega)).1
    rw [zl_gi l hi, if_neg (by omega)] at this
    exact Int.ofNat_le.1 this

theorem rFold_ok (l : List Nat) (c : ChN l) (ho : foOk l) : Pure prog 31 [nl (zl l)] (.tup [fv (Int.ofNat (foS l).1) (Int.ofNat (foS l).2), .bool true]) := by
  have hz := zl_len l
  have ln := ivs_no (zl l)
  obtain ⟨k, hk⟩ : ∃ k, l.length = k + 1 := ⟨l.length - 1, by have := c.h1; omega⟩
  have h24 := c.h1
  have hl := fo_last l hk
  refine pure_sym hE rfl (by repeat' (first | exact trivial | assumption | exact flat_no _ | exact (fun _ h => nomatch h) | apply And.intro)) (by repeat' (first | exact trivial | assumption | exact flat_no _ | exact (fun _ h => nomatch h) | apply And.intro)) fun S q pc hS hq hC hE => ?_
  conv => whnf
  rw [wrapLen (n := (zl l).length) (by omega)]
  conv => whnf
  refine bool_true (inR_i (show (0 : Int) ≤ ((zl l).length : Int) - 1 ∧ ((zl l).length : Int) - 1 < ((zl l).length : Int) by omega)) ?_
  conv => whnf
  refine plan_as (nthP (nth_last hk rfl)) ?_
  conv => whnf
  rw [show IntKind.i64.wrap (((zl l).length : Int) - 2) = (k : Int) - 1 by rw [wrapI (by omega) (by omega)]; omega]
  refine sym_loop hE hS (A := Nat × Nat × Nat) [0, 2, 5] (fun (i, n, d) => [(6, iv ((i : Int) - 1))]) (fun (i, n, d) => [(1, cell2 (Int.ofNat n) (Int.ofNat d) 23)]) (fun (i, n, d) => i < l.length ∧ foS (l.drop i) = (n, d)) (fun (i, _, _) => i) (k, l.getD k 0, 1) rfl rfl ⟨rfl, rfl, rfl, rfl, by repeat' (first | exact trivial | exact rfl | exact Nat.zero_le _ | exact Nat.le_of_ble_eq_true rfl | exact bdl_no (by assumption) | exact bdl_no (flat_no _) | apply And.intro), by repeat' (first | exact trivial | exact rfl | exact Nat.zero_le _ | exact Nat.le_of_ble_eq_true rfl | exact bdl_no (by assumption) | exact bdl_no (flat_no _) | apply And.intro)⟩ ⟨by omega, hl⟩ ?_
  rintro ⟨i, n, d⟩ ⟨hi, he⟩
  conv => whnf
  cases i with
  | zero =>
    rw [show decide (((0 : Nat) : Int) - 1 ≥ 0) = false from decide_eq_false (by omega)]
    conv => whnf
    have he0 : foS l = (n, d) := he
    have h1 : n ≤ 50000 := by have := ho 0 (by omega); rw [he] at this; exact this
    have h2 : d ≤ 50000 := by have := foS_den l 0 fun j _ h => ho j h; rw [he] at this; exact this
    have h3 : 1 ≤ d := by
      have := foS_drop l (i := 0) (by omega)
      rw [he] at this
      have e : d = (foS (l.drop 1)).1 := by injection this
      rw [e]
      exact foS_pos l c.hp k 1 (Nat.le_refl 1) (by omega)
    refine sym_pure hC (rFraction_pure _ _) ?_
    conv => whnf
    rw [decide_eq_true (isF_N h1 h3 h2)]
    refine sym_drawn hS (by kernel_rfl) ?_
    conv => whnf
    exact ⟨_, rfl, by rw [he0]; exact Wk.refl _⟩
  | succ j =>
    obtain ⟨h1, h2, h3, h4⟩ := fo_step l c.hx (by omega) he fun j _ h => ho j h
    have h5 := ho j (by omega)
    rw [h1] at h5
    simp only at h5
    rw [show decide (((j + 1 : Nat) : Int) - 1 ≥ 0) = true from decide_eq_true (by omega)]
    conv => whnf
    refine bool_true (inR_i (show (0 : Int) ≤ ((j + 1 : Nat) : Int) - 1 ∧ ((j + 1 : Nat) : Int) - 1 < ((zl l).length : Int) by omega)) ?_
    conv => whnf
    refine plan_as (nthP (nth_zl (l := l) (k := j) (by omega))) ?_
    conv => whnf
    refine sym_drawn hS (by kernel_rfl) ?_
    conv => whnf
    rw [mulN (a := l.getD j 0) (b := n) (by omega), addN (a := l.getD j 0 * n) (b := d) (by omega)]
    rw [show decide (Int.ofNat (l.getD j 0 * n + d) > 50000) = false from gtN_f (b := 50000) (by omega)]
    conv => whnf
    rw [show IntKind.i64.wrap (((j + 1 : Nat) : Int) - 1 - 1) = (j : Int) - 1 by rw [wrapI (by omega) (by omega)]; omega]
    exact ⟨(j, l.getD j 0 * n + d, n), ⟨by omega, h1⟩, by show j < j + 1; omega, ⟨rfl, rfl, rfl, rfl, by repeat' (first | exact trivial | exact rfl | exact Nat.zero_le _ | exact Nat.le_of_ble_eq_true rfl | exact bdl_no (by assumption) | exact bdl_no (flat_no _) | apply And.intro), by repeat' (first | exact trivial | exact rfl | exact Nat.zero_le _ | exact Nat.le_of_ble_eq_true rfl | exact bdl_no (by assumption) | exact bdl_no (flat_no _) | apply And.intro)⟩⟩

theorem rFold_big (l : List Nat) (c : ChN l) (ho : ¬ foOk l) : Pure prog 31 [nl (zl l)] (.tup [fv 0 0, .bool false]) := by
  have hz := zl_len l
  have ln := ivs_no (zl l)
  obtain ⟨k, hk⟩ : ∃ k, l.length = k + 1 := ⟨l.length - 1, by have := c.h1; omega⟩
  have h24 := c.h1
  have hl := fo_last l hk
  have key : ∀ i, i < l.length → (∀ j, i ≤ j → j < l.length → (foS (l.drop j)).1 ≤ 50000) → 1 ≤ i := by
    intro i _ h
    cases i with
    | zero => exact absurd (fun j hj => h j (Nat.zero_le _) hj) ho
    | succ i => omega
  refine pure_sym hE rfl (by repeat' (first | exact trivial | assumption | exact flat_no _ | exact (fun _ h => nomatch h) | apply And.intro)) (by repeat' (first | exact trivial | assumption | exact flat_no _ | exact (fun _ h => nomatch h) | apply And.intro)) fun S q pc hS hq hC hE => ?_
  conv => whnf
  rw [wrapLen (n := (zl l).length) (by omega)]
  conv => whnf
  refine bool_true (inR_i (show (0 : Int) ≤ ((zl l).length : Int) - 1 ∧ ((zl l).length : Int) - 1 < ((zl l).length : Int) by omega)) ?_
  conv => whnf
  refine plan_as (nthP (nth_last hk rfl)) ?_
  conv => whnf
  rw [show IntKind.i64.wrap (((zl l).length : Int) - 2) = (k : Int) - 1 by rw [wrapI (by omega) (by omega)]; omega]
  refine sym_loop hE hS (A := Nat × Nat × Nat) [0, 2, 5] (fun (i, n, d) => [(6, iv ((i : Int) - 1))]) (fun (i, n, d) => [(1, cell2 (Int.ofNat n) (Int.ofNat d) 23)]) (fun (i, n, d) => (i < l.length ∧ ∀ j, i ≤ j → j < l.length → (foS (l.drop j)).1 ≤ 50000) ∧ foS (l.drop i) = (n, d)) (fun (i, _, _) => i) (k, l.getD k 0, 1) rfl rfl ⟨rfl, rfl, rfl, rfl, by repeat' (first | exact trivial | exact rfl | exact Nat.zero_le _ | exact Nat.le_of_ble_eq_true rfl | exact bdl_no (by assumption) | exact bdl_no (flat_no _) | apply And.intro), by repeat' (first | exact trivial | exact rfl | exact Nat.zero_le _ | exact Nat.le_of_ble_eq_true rfl | exact bdl_no (by assumption) | exact bdl_no (flat_no _) | apply And.intro)⟩
    ⟨⟨by omega, fun j h1 h2 => by obtain rfl : j = k := by omega
                                  rw [hl]; exact c.hx _ (by omega)⟩, hl⟩ ?_
  rintro ⟨i, n, d⟩ ⟨⟨hi, hg⟩, he⟩
  conv => whnf
  cases i with
  | zero => exact absurd (key 0 hi hg) (by omega)
  | succ j =>
    obtain ⟨h1, h2, h3, h4⟩ := fo_step l c.hx (by omega) he fun j q h => hg j q h
    rw [show decide (((j + 1 : Nat) : Int) - 1 ≥ 0) = true from decide_eq_true (by omega)]
    conv => whnf
    refine bool_true (inR_i (show (0 : Int) ≤ ((j + 1 : Nat) : Int) - 1 ∧ ((j + 1 : Nat) : Int) - 1 < ((zl l).length : Int) by omega)) ?_
    conv => whnf
    refine plan_as (nthP (nth_zl (l := l) (k := j) (by omega))) ?_
    conv => whnf
    refine sym_drawn hS (by kernel_rfl) ?_
    conv => whnf
    rw [mulN (a := l.getD j 0) (b := n) (by omega), addN (a := l.getD j 0 * n) (b := d) (by omega)]
    by_cases h5 : 50000 < l.getD j 0 * n + d
    · rw [show decide (Int.ofNat (l.getD j 0 * n + d) > 50000) = true from gtN_t (b := 50000) h5]
      conv => whnf
      exact ⟨_, rfl, Wk.refl _⟩
    · rw [show decide (Int.ofNat (l.getD j 0 * n + d) > 50000) = false from gtN_f (b := 50000) h5]
      conv => whnf
      rw [show IntKind.i64.wrap (((j + 1 : Nat) : Int) - 1 - 1) = (j : Int) - 1 by rw [wrapI (by omega) (by omega)]; omega]
      refine ⟨(j, l.getD j 0 * n + d, n), ⟨⟨by omega, fun m m1 m2 => ?_⟩, h1⟩, by show j < j + 1; omega, ⟨rfl, rfl, rfl, rfl, by repeat' (first | exact trivial | exact rfl | exact Nat.zero_le _ | exact Nat.le_of_ble_eq_true rfl | exact bdl_no (by assumption) | exact bdl_no (flat_no _) | apply And.intro), by repeat' (first | exact trivial | exact rfl | exact Nat.zero_le _ | exact Nat.le_of_ble_eq_true rfl | exact bdl_no (by assumption) | exact bdl_no (flat_no _) | apply And.intro)⟩⟩
      by_cases e : m = j
      · subst e; rw [h1]; show l.getD m 0 * n + d ≤ 50000; omega
      · exact hg m (by omega) m2
end Go.Abs.Seat
