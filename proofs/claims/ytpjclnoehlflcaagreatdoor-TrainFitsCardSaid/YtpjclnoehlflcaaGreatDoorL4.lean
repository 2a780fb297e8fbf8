/-
  The law TrainNearers.
-/
import Derived.Test.YtpjclnoehlflcaaGreatDoorMT
/-! The law TrainNearers. -/
namespace Go.Abs.Seat
open Go Go.Abs Go.Proofs.Tryz
set_option maxRecDepth 100000
set_option maxHeartbeats 4000000
attribute [local irreducible] IntKind.wrap pEq

/-- How far two hands are from a fraction, made comparable. -/
abbrev farN (n d x y w : Nat) : Nat := gapN (x * d) (n * y) * w

theorem far_le {n d x y w : Nat} (hn : n ≤ 50000) (hd : d ≤ 50000) (hx : x ≤ 216000) (hy : y ≤ 216000) (hw : w ≤ 216000) :
    x * d ≤ 10800000000 ∧ n * y ≤ 10800000000 ∧ gapN (x * d) (n * y) * w ≤ 21600000000 * 216000 := by
  have b1 : x * d ≤ 216000 * 50000 := Nat.mul_le_mul hx hd
  have b2 : n * y ≤ 50000 * 216000 := Nat.mul_le_mul hn hy
  exact ⟨by omega, by omega, Nat.mul_le_mul (by unfold gapN; omega) hw⟩

theorem ordI_sub (p q : Nat) : ordI (Int.ofNat p - Int.ofNat q) 0 = ordI (Int.ofNat p) (Int.ofNat q) := by
  unfold ordI
  have e1 : (Int.ofNat p - Int.ofNat q < 0) ↔ (Int.ofNat p < Int.ofNat q) := by show ((p : Int) - (q : Int) < 0) ↔ ((p : Int) < (q : Int)); omega
  have e2 : (0 < Int.ofNat p - Int.ofNat q) ↔ (Int.ofNat q < Int.ofNat p) := by show (0 < (p : Int) - (q : Int)) ↔ ((q : Int) < (p : Int)); omega
  simp only [e1, e2]

theorem nearer_pure {v u : AV} {k j x y z w : Nat} (hv : TV v k x y) (hu : TV u j z w) (n d : Nat) (hn : n ≤ 50000) (hd : 1 ≤ d ∧ d ≤ 50000) :
    Pure prog 37 [fv (Int.ofNat n) (Int.ofNat d), v, u] (.tup [iv (ordI (Int.ofNat (farN n d x y w)) (Int.ofNat (farN n d z w y))), iv 0]) := by
  obtain ⟨xs, rfl, lx⟩ := hv.sh
  obtain ⟨us, rfl, lu⟩ := hu.sh
  have q1 := far_le (w := w) hn hd.2 hv.bx.2 hv.by_.2 hu.by_.2
  have q2 := far_le (w := y) hn hd.2 hu.bx.2 hu.by_.2 hv.by_.2
  refine pure_sym hE rfl ⟨⟨trivial, trivial, trivial⟩, ⟨lx, fun _ h => nomatch h⟩, ⟨lu, fun _ h => nomatch h⟩, trivial⟩ ⟨trivial, trivial, trivial⟩ fun S q pc hS hq hC hE => ?_
  conv => whnf
  refine sym_pure hC (isFraction_pure _ _) ?_
  rw [decide_eq_true (isF_N hn hd.1 hd.2)]
  conv => whnf
  refine sym_pure hC hv.isT ?_
  conv => whnf
  refine sym_pure hC hu.isT ?_
  conv => whnf
  refine sym_pure hC hv.tu ?_
  conv => whnf
  refine sym_pure hC (distance_pure x y n d (by omega) (by omega)) ?_
  conv => whnf
  refine sym_pure hC hu.tu ?_
  conv => whnf
  refine sym_pure hC (distance_pure z w n d (by omega) (by omega)) ?_
  conv => whnf
  refine sym_pure hC (compare_pure (gapN (x * d) (n * y)) y (gapN (z * d) (n * w)) w (by omega) (by omega)) ?_
  conv => whnf
  refine sym_pure hC (cmp_pure _ _) ?_
  conv => whnf
  refine sym_drawn hS (by kernel_rfl) ?_
  conv => whnf
  exact ⟨_, rfl, by rw [ordI_sub]; exact Wk.refl _⟩

theorem rNearer_pure {v u : AV} {k j x y z w : Nat} (hv : TV v k x y) (hu : TV u j z w) (n d : Nat) (hn : n ≤ 50000) (hd : 1 ≤ d ∧ d ≤ 50000) :
    Pure prog 99 [fv (Int.ofNat n) (Int.ofNat d), v, u] (iv (ordI (Int.ofNat (farN n d x y w)) (Int.ofNat (farN n d z w y)))) := by
  obtain ⟨xs, rfl, lx⟩ := hv.sh
  obtain ⟨us, rfl, lu⟩ := hu.sh
  have q1 := far_le (w := w) hn hd.2 hv.bx.2 hv.by_.2 hu.by_.2
  have q2 := far_le (w := y) hn hd.2 hu.bx.2 hu.by_.2 hv.by_.2
  refine pure_sym hE rfl ⟨⟨trivial, trivial, trivial⟩, ⟨lx, fun _ h => nomatch h⟩, ⟨lu, fun _ h => nomatch h⟩, trivial⟩ trivial fun S q pc hS hq hC hE => ?_
  conv => whnf
  refine sym_pure hC hv.rtu ?_
  conv => whnf
  refine sym_pure hC hu.rtu ?_
  conv => whnf
  refine sym_pure hC (rAway_pure n d x y (by omega) (by omega)) ?_
  conv => whnf
  refine sym_pure hC (rAway_pure n d z w (by omega) (by omega)) ?_
  conv => whnf
  refine sym_drawn hS (by kernel_rfl) ?_
  conv => whnf
  rw [mulN (a := gapN (x * d) (n * y)) (b := w) (by omega), mulN (a := gapN (z * d) (n * w)) (b := y) (by omega)]
  by_cases h1 : farN n d x y w < farN n d z w y
  · rw [ltN_t h1]
    conv => whnf
    exact ⟨_, rfl, by rw [show ordI (Int.ofNat (farN n d x y w)) (Int.ofNat (farN n d z w y)) = -1 from if_pos (of_decide_eq_true (ltN_t h1))]; exact Wk.refl _⟩
  · rw [ltN_f h1]
    conv => whnf
    by_cases h2 : farN n d z w y < farN n d x y w
    · rw [gtN_t h2]
      conv => whnf
      exact ⟨_, rfl, by rw [show ordI (Int.ofNat (farN n d x y w)) (Int.ofNat (farN n d z w y)) = 1 from (if_neg (of_decide_eq_false (ltN_f h1))).trans (if_pos (of_decide_eq_true (ltN_t h2)))]; exact Wk.refl _⟩
    · rw [gtN_f h2]
      conv => whnf
      exact ⟨_, rfl, by rw [show ordI (Int.ofNat (farN n d x y w)) (Int.ofNat (farN n d z w y)) = 0 from (if_neg (of_decide_eq_false (ltN_f h1))).trans (if_neg (of_decide_eq_false (ltN_f h2)))]; exact Wk.refl _⟩

/-- A list as it comes in, and whether it is a train. -/
structure TS (v : AV) (k : Nat) (b : Bool) : Prop where
  sh : v = .nils ∧ k = 0 ∨ ∃ xs, v = .lst xs k .no ∧ Lives noL xs
  isT : Pure prog 63 [v] (.bool b)
  rT : k ≤ 8 → Pure prog 18 [v] (.bool b)
theorem TV.ts {v : AV} {k x y : Nat} (h : TV v k x y) : TS v k true := ⟨.inr h.sh, h.isT, fun _ => h.rT⟩
theorem TN.ts {v : AV} {k : Nat} (h : TN v k) : TS v k false := ⟨h.sh, h.isT, h.rT⟩
theorem TS.no {v : AV} {k : Nat} {b : Bool} (h : TS v k b) : Live noL v := by
  rcases h.sh with ⟨rfl, _⟩ | ⟨xs, rfl, hl⟩
  · trivial
  · exact ⟨hl, fun _ h => nomatch h⟩

theorem slim_pure (n : Int) : Pure prog 14 [iv n] (.bool (decide (n ≤ 8))) := by
  refine pure_sym hE rfl ⟨trivial, trivial⟩ trivial fun S q pc hS hq hC hE => ?_
  conv => whnf
  exact ⟨_, rfl, Wk.refl _⟩

theorem slim_yes {n : Int} (h : n ≤ 8) : Pure prog 14 [iv n] (.bool true) := by have := slim_pure n; rwa [decide_eq_true h] at this
theorem slim_not {n : Int} (h : ¬ n ≤ 8) : Pure prog 14 [iv n] (.bool false) := by have := slim_pure n; rwa [decide_eq_false h] at this

theorem nearer_no {v u : AV} {k j : Nat} {b c : Bool} (hv : TS v k b) (hu : TS u j c) (n d : Int) (h : ¬ (isF n d ∧ b = true ∧ c = true)) :
    Pure prog 37 [fv n d, v, u] (.tup [iv 0, iv 2]) := by
  have lv := hv.no
  have lu := hu.no
  have iv := hv.isT
  have iu := hu.isT
  rcases hv.sh with ⟨rfl, _⟩ | ⟨xs, rfl, _⟩ <;> rcases hu.sh with ⟨rfl, _⟩ | ⟨us, rfl, _⟩
  all_goals
    refine pure_sym hE rfl ⟨⟨trivial, trivial, trivial⟩, lv, lu, trivial⟩ ⟨trivial, trivial, trivial⟩ fun S q pc hS hq hC hE => ?_
    conv => whnf
    refine sym_pure hC (isFraction_pure _ _) ?_
    by_cases h1 : isF n d
    · rw [decide_eq_true h1]
      conv => whnf
      refine sym_pure hC iv ?_
      cases b with
      | true =>
        conv => whnf
        refine sym_pure hC iu ?_
        cases c with
        | true => exact absurd ⟨h1, rfl, rfl⟩ h
        | false =>
          conv => whnf
          exact ⟨_, rfl, Wk.refl _⟩
      | false =>
        conv => whnf
        exact ⟨_, rfl, Wk.refl _⟩
    · rw [decide_eq_false h1]
      conv => whnf
      exact ⟨_, rfl, Wk.refl _⟩

theorem ordI_neg (a b : Int) : ordI b a = -ordI a b := by unfold ordI; split <;> split <;> omega

end Go.Abs.Seat
