/-
  The law TrainProves: the program and the document agree on what is a proof.
-/
import Derived.Test.YtgojpjbbahljeaaGreatDoorMG
/-! The law TrainProves: the program and the document agree on what is a proof. -/
namespace Go.Abs.Seat
open Go Go.Abs Go.Proofs.Tryz
set_option maxRecDepth 100000
set_option maxHeartbeats 4000000
attribute [local irreducible] IntKind.wrap pEq

theorem proves_no (n d m a b c e : Int) (h : ¬ (isF n d ∧ (1 ≤ m ∧ m ≤ 50000) ∧ isF a b ∧ isF c e)) :
    Pure prog 22 [fv n d, iv m, fv a b, fv c e] (.tup [.bool false, iv 2]) := by
  refine pure_sym hE rfl ⟨⟨trivial, trivial, trivial⟩, trivial, ⟨trivial, trivial, trivial⟩, ⟨trivial, trivial, trivial⟩, trivial⟩ ⟨trivial, trivial, trivial⟩ fun S q pc hS hq hC hE => ?_
  conv => whnf
  refine sym_pure hC (isFraction_pure _ _) ?_
  by_cases h1 : isF n d
  · rw [decide_eq_true h1]
    conv => whnf
    refine sym_pure hC (in_pure _ 1 50000) ?_
    by_cases h2 : 1 ≤ m ∧ m ≤ 50000
    · rw [decide_eq_true h2]
      conv => whnf
      refine sym_pure hC (isFraction_pure _ _) ?_
      by_cases h3 : isF a b
      · rw [decide_eq_true h3]
        conv => whnf
        refine sym_pure hC (isFraction_pure _ _) ?_
        rw [decide_eq_false fun h4 => h ⟨h1, h2, h3, h4⟩]
        conv => whnf
        exact ⟨_, rfl, Wk.refl _⟩
      · rw [decide_eq_false h3]
        conv => whnf
        exact ⟨_, rfl, Wk.refl _⟩
    · rw [decide_eq_false h2]
      conv => whnf
      exact ⟨_, rfl, Wk.refl _⟩
  · rw [decide_eq_false h1]
    conv => whnf
    exact ⟨_, rfl, Wk.refl _⟩

theorem trainProves_no (hk : Pure prog 19 [] (.bool true)) (n d m a b c e : Int) (h : ¬ (isF n d ∧ (1 ≤ m ∧ m ≤ 50000) ∧ isF a b ∧ isF c e)) :
    Pure prog 5 [fv n d, iv m, fv a b, fv c e] (.bool true) := by
  refine pure_sym hE rfl ⟨⟨trivial, trivial, trivial⟩, trivial, ⟨trivial, trivial, trivial⟩, ⟨trivial, trivial, trivial⟩, trivial⟩ trivial fun S q pc hS hq hC hE => ?_
  conv => whnf
  refine sym_pure hC (proves_no n d m a b c e h) ?_
  conv => whnf
  refine sym_pure hC (rFraction_pure _ _) ?_
  by_cases h1 : isF n d
  · rw [decide_eq_true h1]
    conv => whnf
    refine sym_pure hC (rBound_pure _) ?_
    by_cases h2 : 1 ≤ m ∧ m ≤ 50000
    · rw [decide_eq_true h2]
      conv => whnf
      refine sym_pure hC (rFraction_pure _ _) ?_
      by_cases h3 : isF a b
      · rw [decide_eq_true h3]
        conv => whnf
        refine sym_pure hC (rFraction_pure _ _) ?_
        rw [decide_eq_false fun h4 => h ⟨h1, h2, h3, h4⟩]
        conv => whnf
        refine sym_pure hC hk ?_
        conv => whnf
        exact ⟨_, rfl, Wk.refl _⟩
      · rw [decide_eq_false h3]
        conv => whnf
        refine sym_pure hC hk ?_
        conv => whnf
        exact ⟨_, rfl, Wk.refl _⟩
    · rw [decide_eq_false h2]
      conv => whnf
      refine sym_pure hC hk ?_
      conv => whnf
      exact ⟨_, rfl, Wk.refl _⟩
  · rw [decide_eq_false h1]
    conv => whnf
    refine sym_pure hC hk ?_
    conv => whnf
    exact ⟨_, rfl, Wk.refl _⟩

theorem trainProves_yes (hk : Pure prog 19 [] (.bool true)) (n d m a b c e : Nat) (hn : n ≤ 50000) (hd : 1 ≤ d ∧ d ≤ 50000) (hm : 1 ≤ m ∧ m ≤ 50000) (ha : a ≤ 50000) (hb : 1 ≤ b ∧ b ≤ 50000) (hc : c ≤ 50000) (he : 1 ≤ e ∧ e ≤ 50000) :
    Pure prog 5 [fv (Int.ofNat n) (Int.ofNat d), nv m, fv (Int.ofNat a) (Int.ofNat b), fv (Int.ofNat c) (Int.ofNat e)] (.bool true) := by
  refine pure_sym hE rfl ⟨⟨trivial, trivial, trivial⟩, trivial, ⟨trivial, trivial, trivial⟩, ⟨trivial, trivial, trivial⟩, trivial⟩ trivial fun S q pc hS hq hC hE => ?_
  have h1 : isF (Int.ofNat n) (Int.ofNat d) := by unfold isF; simp only [Int.ofNat_eq_natCast]; omega
  have h2 : (1 : Int) ≤ Int.ofNat m ∧ Int.ofNat m ≤ 50000 := by simp only [Int.ofNat_eq_natCast]; omega
  have h3 : isF (Int.ofNat a) (Int.ofNat b) := by unfold isF; simp only [Int.ofNat_eq_natCast]; omega
  have h4 : isF (Int.ofNat c) (Int.ofNat e) := by unfold isF; simp only [Int.ofNat_eq_natCast]; omega
  have p1 := proves_pure n d m a b c e hn hd hm ha hb hc he
  have p2 := rProves_pure n d m a b c e hn hd hm ha hb hc he
  generalize decide (prv n d m a b c e) = is at p1 p2
  conv => whnf
  refine sym_pure hC p1 ?_
  conv => whnf
  refine sym_pure hC (rFraction_pure _ _) ?_
  rw [decide_eq_true h1]
  conv => whnf
  refine sym_pure hC (rBound_pure _) ?_
  rw [decide_eq_true h2]
  conv => whnf
  refine sym_pure hC (rFraction_pure _ _) ?_
  rw [decide_eq_true h3]
  conv => whnf
  refine sym_pure hC (rFraction_pure _ _) ?_
  rw [decide_eq_true h4]
  conv => whnf
  refine sym_pure hC p2 ?_
  conv => whnf
  refine sym_eq hq true (eqBool_same _ _) ?_
  conv => whnf
  refine sym_pure hC hk ?_
  conv => whnf
  exact ⟨_, rfl, Wk.refl _⟩

theorem trainProves (hk : Pure prog 19 [] (.bool true)) (n d m a b c e : Int) : Pure prog 5 [fv n d, iv m, fv a b, fv c e] (.bool true) := by
  by_cases h : isF n d ∧ (1 ≤ m ∧ m ≤ 50000) ∧ isF a b ∧ isF c e
  · obtain ⟨h1, h2, h3, h4⟩ := h
    obtain ⟨n, d, rfl, rfl, q1, q2, q3⟩ := isF_nat h1
    obtain ⟨a, b, rfl, rfl, q4, q5, q6⟩ := isF_nat h3
    obtain ⟨c, e, rfl, rfl, q7, q8, q9⟩ := isF_nat h4
    have e3 : m = Int.ofNat m.toNat := by show m = ((m.toNat : Nat) : Int); omega
    rw [e3]
    exact trainProves_yes hk _ _ _ _ _ _ _ q1 ⟨q2, q3⟩ ⟨by omega, by omega⟩ q4 ⟨q5, q6⟩ q7 ⟨q8, q9⟩
  · exact trainProves_no hk n d m a b c e h
end Go.Abs.Seat
