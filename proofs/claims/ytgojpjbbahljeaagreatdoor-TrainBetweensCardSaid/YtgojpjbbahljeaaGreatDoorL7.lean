/-
  The law TrainBetweens.
-/
import Derived.Test.YtgojpjbbahljeaaGreatDoorT12
/-! The law TrainBetweens. -/
namespace Go.Abs.Seat
open Go Go.Abs Go.Proofs.Tryz
set_option maxRecDepth 100000
set_option maxHeartbeats 4000000
attribute [local irreducible] IntKind.wrap pEq

/-- Spans held against each other. -/
theorem eqSp (cst : Bool) (a b c d : Int) : q0 67 cst (fv a b) (fv c d) = @Bool.rec (fun _ => Option Bool) (some false) (@Bool.rec (fun _ => Option Bool) (some false) (some true) (b == d)) (a == c) := by kernel_rfl
theorem eqSp_same (cst : Bool) (a b : Int) : q0 67 cst (fv a b) (fv a b) = some true := by
  rw [eqSp, show (a == a) = true from beq_self_eq_true a, show (b == b) = true from beq_self_eq_true b]

theorem decb {b : Bool} {p : Prop} [Decidable p] (h : b = true ↔ p) : decide p = b := by
  cases b with
  | true => exact decide_eq_true (h.1 rfl)
  | false => exact decide_eq_false fun e => nomatch h.2 e

/-- Where one of the first arguments is not as defined. -/
theorem between_no {v : AV} {k : Nat} {b bF bG : Bool} (hv : TS v k b) {n d e g t : Int} (iF : bF = true ↔ isF n d) (iG : bG = true ↔ isF e g) (h : (b && bF && bG) = false) :
    Pure prog 47 [v, fv n d, fv e g, iv t] (.tup [fv 0 0, iv 2]) := by
  have lv := hv.no
  have iv := hv.isT
  have pF := isFraction_pure n d
  have pG := isFraction_pure e g
  rw [decb iF] at pF
  rw [decb iG] at pG
  rcases hv.sh with ⟨rfl, _⟩ | ⟨xs, rfl, _⟩
  all_goals
    refine pure_sym hE rfl (by repeat' (first | exact trivial | assumption | exact flat_no _ | exact (fun _ h => nomatch h) | apply And.intro)) (by repeat' (first | exact trivial | assumption | exact flat_no _ | exact (fun _ h => nomatch h) | apply And.intro)) fun S q pc hS hq hC hE => ?_
    conv => whnf
    refine sym_pure hC (iv) ?_
    conv => whnf
    cases b
    · conv => whnf
      exact ⟨_, rfl, Wk.refl _⟩
    · conv => whnf
      refine sym_pure hC (pF) ?_
      conv => whnf
      cases bF
      · conv => whnf
        exact ⟨_, rfl, Wk.refl _⟩
      · conv => whnf
        refine sym_pure hC (pG) ?_
        conv => whnf
        cases bG
        · conv => whnf
          exact ⟨_, rfl, Wk.refl _⟩
        · cases h

theorem between_no2 {v : AV} {k x y : Nat} (hv : TV v k x y) (n d e g : Nat) (t : Int) (hn : n ≤ 50000) (hd : 1 ≤ d ∧ d ≤ 50000) (he : e ≤ 50000) (hg : 1 ≤ g ∧ g ≤ 50000) (h : e * d < n * g ∨ ¬ (0 ≤ t ∧ t ≤ 10000)) :
    Pure prog 47 [v, fv (Int.ofNat n) (Int.ofNat d), fv (Int.ofNat e) (Int.ofNat g), iv t] (.tup [fv 0 0, iv 2]) := by
  have c1 : n * g ≤ 50000 * 50000 := Nat.mul_le_mul hn hg.2
  have c2 : e * d ≤ 50000 * 50000 := Nat.mul_le_mul he hd.2
  obtain ⟨xs, rfl, lx⟩ := hv.sh
  refine pure_sym hE rfl (by repeat' (first | exact trivial | assumption | exact flat_no _ | exact (fun _ h => nomatch h) | apply And.intro)) (by repeat' (first | exact trivial | assumption | exact flat_no _ | exact (fun _ h => nomatch h) | apply And.intro)) fun S q pc hS hq hC hE => ?_
  conv => whnf
  refine sym_pure hC (hv.isT) ?_
  conv => whnf
  refine sym_pure hC (isFraction_pure _ _) ?_
  conv => whnf
  rw [decide_eq_true (isF_N hn hd.1 hd.2)]
  conv => whnf
  refine sym_pure hC (isFraction_pure _ _) ?_
  conv => whnf
  rw [decide_eq_true (isF_N he hg.1 hg.2)]
  conv => whnf
  refine sym_pure hC (compare_pure n d e g (by omega) (by omega)) ?_
  conv => whnf
  by_cases hle : e * d < n * g
  · rw [show decide (Int.ofNat (n * g) - Int.ofNat (e * d) > 0) = true from gt0_t hle]
    conv => whnf
    exact ⟨_, rfl, Wk.refl _⟩
  · rw [show decide (Int.ofNat (n * g) - Int.ofNat (e * d) > 0) = false from gt0_f hle]
    conv => whnf
    refine sym_pure hC (isTurn_pure _) ?_
    conv => whnf
    rw [decide_eq_false (h.resolve_left hle)]
    conv => whnf
    exact ⟨_, rfl, Wk.refl _⟩

theorem trainBetweens_yes (hk : Pure prog 19 [] (.bool true)) {v : AV} {k x y : Nat} (hv : TV v k x y) (n d e g : Nat) (t : Int) (hn : n ≤ 50000) (hd : 1 ≤ d ∧ d ≤ 50000) (he : e ≤ 50000) (hg : 1 ≤ g ∧ g ≤ 50000) :
    Pure prog 12 [v, fv (Int.ofNat n) (Int.ofNat d), fv (Int.ofNat e) (Int.ofNat g), iv t] (.bool true) := by
  have rT := hv.rT
  have pF := rFraction_pure (Int.ofNat n) (Int.ofNat d)
  have pG := rFraction_pure (Int.ofNat e) (Int.ofNat g)
  rw [decide_eq_true (isF_N hn hd.1 hd.2)] at pF
  rw [decide_eq_true (isF_N he hg.1 hg.2)] at pG
  have c1 : n * g ≤ 50000 * 50000 := Nat.mul_le_mul hn hg.2
  have c2 : e * d ≤ 50000 * 50000 := Nat.mul_le_mul he hd.2
  have pB := rBelow_pure e g n d (by omega) (by omega)
  have pN := rNumber_pure t
  have k3 := hv.k1
  by_cases hle : e * d < n * g
  · rw [decide_eq_true hle] at pB
    have po := between_no2 hv n d e g t hn hd he hg (.inl hle)
    obtain ⟨xs, rfl, lx⟩ := hv.sh
    refine pure_sym hE rfl (by repeat' (first | exact trivial | assumption | exact flat_no _ | exact (fun _ h => nomatch h) | apply And.intro)) (by repeat' (first | exact trivial | assumption | exact flat_no _ | exact (fun _ h => nomatch h) | apply And.intro)) fun S q pc hS hq hC hE => ?_
    conv => whnf
    repeat ((first
      | refine sym_pure hC (slim_yes (by omega)) ?_
      | refine sym_pure hC (po) ?_
      | refine sym_pure hC (rT) ?_
      | refine sym_pure hC (pF) ?_
      | refine sym_pure hC (pG) ?_
      | refine sym_pure hC (pB) ?_
      | refine sym_pure hC (hk) ?_
      | refine sym_drawn hS (by kernel_rfl) ?_
      | refine sym_eq hq true (eqBool_same _ _) ?_
      | rw [beq_self_eq_true]
      | rw [bne_self_eq_false]); conv => whnf)
    refine sym_eq hq true (eqSp_same _ _ _) ?_
    conv => whnf
    repeat ((first
      | refine sym_pure hC (hk) ?_
      | refine sym_drawn hS (by kernel_rfl) ?_
      | refine sym_eq hq true (eqBool_same _ _) ?_
      | rw [beq_self_eq_true]
      | rw [bne_self_eq_false]); conv => whnf)
    exact ⟨_, rfl, Wk.refl _⟩
  · rw [decide_eq_false hle] at pB
    by_cases ht : 0 ≤ t ∧ t ≤ 10000
    · rw [decide_eq_true ht] at pN
      obtain ⟨t, rfl, q4⟩ := int_nat ht
      have po := between_pure hv n d e g t hn hd he hg hle (by omega)
      have pr := rBetween_pure hv n d e g t hn hd he hg (by omega)
      generalize dnV (offP x g t) (offQ y e t) (y * g) = A at *
      generalize upV (offP x d t) (offQ y n t) (y * d) = Z at *
      obtain ⟨xs, rfl, lx⟩ := hv.sh
      refine pure_sym hE rfl (by repeat' (first | exact trivial | assumption | exact flat_no _ | exact (fun _ h => nomatch h) | apply And.intro)) (by repeat' (first | exact trivial | assumption | exact flat_no _ | exact (fun _ h => nomatch h) | apply And.intro)) fun S q pc hS hq hC hE => ?_
      conv => whnf
      repeat ((first
        | refine sym_pure hC (slim_yes (by omega)) ?_
        | refine sym_pure hC (po) ?_
        | refine sym_pure hC (pr) ?_
        | refine sym_pure hC (rT) ?_
        | refine sym_pure hC (pF) ?_
        | refine sym_pure hC (pG) ?_
        | refine sym_pure hC (pB) ?_
        | refine sym_pure hC (pN) ?_
        | refine sym_drawn hS (by kernel_rfl) ?_
        | refine sym_eq hq true (eqBool_same _ _) ?_
        | rw [beq_self_eq_true]
        | rw [bne_self_eq_false]); conv => whnf)
      refine sym_eq hq true (eqSp_same _ _ _) ?_
      conv => whnf
      repeat ((first
        | refine sym_pure hC (hk) ?_
        | refine sym_drawn hS (by kernel_rfl) ?_
        | refine sym_eq hq true (eqBool_same _ _) ?_
        | rw [beq_self_eq_true]
        | rw [bne_self_eq_false]); conv => whnf)
      exact ⟨_, rfl, Wk.refl _⟩
    · rw [decide_eq_false ht] at pN
      have po := between_no2 hv n d e g t hn hd he hg (.inr ht)
      obtain ⟨xs, rfl, lx⟩ := hv.sh
      refine pure_sym hE rfl (by repeat' (first | exact trivial | assumption | exact flat_no _ | exact (fun _ h => nomatch h) | apply And.intro)) (by repeat' (first | exact trivial | assumption | exact flat_no _ | exact (fun _ h => nomatch h) | apply And.intro)) fun S q pc hS hq hC hE => ?_
      conv => whnf
      repeat ((first
        | refine sym_pure hC (slim_yes (by omega)) ?_
        | refine sym_pure hC (po) ?_
        | refine sym_pure hC (rT) ?_
        | refine sym_pure hC (pF) ?_
        | refine sym_pure hC (pG) ?_
        | refine sym_pure hC (pB) ?_
        | refine sym_pure hC (pN) ?_
        | refine sym_drawn hS (by kernel_rfl) ?_
        | refine sym_eq hq true (eqBool_same _ _) ?_
        | rw [beq_self_eq_true]
        | rw [bne_self_eq_false]); conv => whnf)
      refine sym_eq hq true (eqSp_same _ _ _) ?_
      conv => whnf
      repeat ((first
        | refine sym_pure hC (hk) ?_
        | refine sym_drawn hS (by kernel_rfl) ?_
        | refine sym_eq hq true (eqBool_same _ _) ?_
        | rw [beq_self_eq_true]
        | rw [bne_self_eq_false]); conv => whnf)
      exact ⟨_, rfl, Wk.refl _⟩

/-- TrainBetweens, of whatever lists. -/
theorem trainBetweens (hk : Pure prog 19 [] (.bool true)) {v : AV} {k : Nat} (hv : (∃ x y, TV v k x y) ∨ TN v k) (n d e g t : Int) :
    Pure prog 12 [v, fv n d, fv e g, iv t] (.bool true) := by
  obtain ⟨b, sv, hx⟩ := ts_of hv
  have lv := sv.no
  by_cases h8 : k ≤ 8
  · have rT := sv.rT h8
    obtain ⟨bF, pF, iF⟩ := dec_b (rFraction_pure n d)
    obtain ⟨bG, pG, iG⟩ := dec_b (rFraction_pure e g)
    cases h : (b && bF && bG) with
    | true =>
      simp only [Bool.and_eq_true] at h
      obtain ⟨⟨rfl, rfl⟩, rfl⟩ := h
      obtain ⟨x, y, tv⟩ := hx rfl
      obtain ⟨n, d, rfl, rfl, q1, q2, q3⟩ := isF_nat (iF.1 rfl)
      obtain ⟨e, g, rfl, rfl, q4, q5, q6⟩ := isF_nat (iG.1 rfl)
      exact trainBetweens_yes hk tv n d e g t q1 ⟨q2, q3⟩ q4 ⟨q5, q6⟩
    | false =>
      have po := between_no sv (t := t) iF iG h
      rcases sv.sh with ⟨rfl, rfl⟩ | ⟨xs, rfl, lx⟩
      all_goals
        refine pure_sym hE rfl (by repeat' (first | exact trivial | assumption | exact flat_no _ | exact (fun _ h => nomatch h) | apply And.intro)) (by repeat' (first | exact trivial | assumption | exact flat_no _ | exact (fun _ h => nomatch h) | apply And.intro)) fun S q pc hS hq hC hE => ?_
        conv => whnf
        repeat ((first
          | refine sym_pure hC (slim_yes (by omega)) ?_
          | refine sym_pure hC (po) ?_
          | refine sym_pure hC (rT) ?_
          | refine sym_drawn hS (by kernel_rfl) ?_
          | refine sym_eq hq true (eqBool_same _ _) ?_
          | rw [beq_self_eq_true]
          | rw [bne_self_eq_false]); conv => whnf)
        cases b
        · conv => whnf
          refine sym_eq hq true (eqSp_same _ _ _) ?_
          conv => whnf
          repeat ((first
            | refine sym_pure hC (hk) ?_
            | refine sym_drawn hS (by kernel_rfl) ?_
            | refine sym_eq hq true (eqBool_same _ _) ?_
            | rw [beq_self_eq_true]
            | rw [bne_self_eq_false]); conv => whnf)
          exact ⟨_, rfl, Wk.refl _⟩
        · conv => whnf
          repeat ((first
            | refine sym_pure hC (pF) ?_
            | refine sym_drawn hS (by kernel_rfl) ?_
            | refine sym_eq hq true (eqBool_same _ _) ?_
            | rw [beq_self_eq_true]
            | rw [bne_self_eq_false]); conv => whnf)
          cases bF
          · conv => whnf
            refine sym_eq hq true (eqSp_same _ _ _) ?_
            conv => whnf
            repeat ((first
              | refine sym_pure hC (hk) ?_
              | refine sym_drawn hS (by kernel_rfl) ?_
              | refine sym_eq hq true (eqBool_same _ _) ?_
              | rw [beq_self_eq_true]
              | rw [bne_self_eq_false]); conv => whnf)
            exact ⟨_, rfl, Wk.refl _⟩
          · conv => whnf
            repeat ((first
              | refine sym_pure hC (pG) ?_
              | refine sym_drawn hS (by kernel_rfl) ?_
              | refine sym_eq hq true (eqBool_same _ _) ?_
              | rw [beq_self_eq_true]
              | rw [bne_self_eq_false]); conv => whnf)
            cases bG
            · conv => whnf
              refine sym_eq hq true (eqSp_same _ _ _) ?_
              conv => whnf
              repeat ((first
                | refine sym_pure hC (hk) ?_
                | refine sym_drawn hS (by kernel_rfl) ?_
                | refine sym_eq hq true (eqBool_same _ _) ?_
                | rw [beq_self_eq_true]
                | rw [bne_self_eq_false]); conv => whnf)
              exact ⟨_, rfl, Wk.refl _⟩
            · cases h
  · rcases sv.sh with ⟨rfl, rfl⟩ | ⟨xs, rfl, lx⟩
    all_goals
      refine pure_sym hE rfl (by repeat' (first | exact trivial | assumption | exact flat_no _ | exact (fun _ h => nomatch h) | apply And.intro)) (by repeat' (first | exact trivial | assumption | exact flat_no _ | exact (fun _ h => nomatch h) | apply And.intro)) fun S q pc hS hq hC hE => ?_
      conv => whnf
      repeat ((first
        | refine sym_pure hC (slim_not (by omega)) ?_
        | refine sym_pure hC (hk) ?_
        | refine sym_drawn hS (by kernel_rfl) ?_
        | refine sym_eq hq true (eqBool_same _ _) ?_
        | rw [beq_self_eq_true]
        | rw [bne_self_eq_false]); conv => whnf)
      exact ⟨_, rfl, Wk.refl _⟩
end Go.Abs.Seat
