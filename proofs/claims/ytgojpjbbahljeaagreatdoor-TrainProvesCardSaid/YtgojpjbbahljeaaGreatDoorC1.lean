/-
  Contracts of small functions.
-/
import Derived.Test.YtgojpjbbahljeaaGreatDoorSE
/-! Contracts of small functions. -/
namespace Go.Abs.Seat
open Go Go.Abs Go.Proofs.Tryz
set_option maxRecDepth 100000
set_option maxHeartbeats 4000000
attribute [local irreducible] IntKind.wrap pEq

abbrev iv (n : Int) : AV := .int .i64 n
abbrev nv (n : Nat) : AV := .int .i64 (Int.ofNat n)
abbrev fv (a b : Int) : AV := .agg [iv a, iv b]

theorem gt0 (a b : Nat) : decide (Int.ofNat a - Int.ofNat b > 0) = true ↔ b < a := by
  rw [decide_eq_true_eq]
  show (0 : Int) < (a : Int) - (b : Int) ↔ _
  omega
theorem lt0 (a b : Nat) : decide (Int.ofNat a - Int.ofNat b < 0) = true ↔ a < b := by
  rw [decide_eq_true_eq]
  show (a : Int) - (b : Int) < 0 ↔ _
  omega
theorem leN (a b : Nat) : decide (Int.ofNat a ≤ Int.ofNat b) = true ↔ a ≤ b := by
  rw [decide_eq_true_eq]
  show (a : Int) ≤ (b : Int) ↔ _
  omega
theorem ltN (a b : Nat) : decide (Int.ofNat a < Int.ofNat b) = true ↔ a < b := by
  rw [decide_eq_true_eq]
  show (a : Int) < (b : Int) ↔ _
  omega
theorem wrapSub1 {m : Nat} (h1 : 1 ≤ m) (h : m < 9223372036854775808) : IntKind.i64.wrap (Int.ofNat m - 1) = Int.ofNat (m - 1) := by
  rw [show Int.ofNat m - 1 = Int.ofNat (m - 1) by show (m : Int) - 1 = ((m - 1 : Nat) : Int); omega]
  exact wrapN (by omega)
theorem ne0 {d : Nat} (h : 1 ≤ d) : (!(Int.ofNat d == 0)) = true := by
  have : (Int.ofNat d == 0) = false := beq_eq_false_iff_ne.2 (by show (d : Int) ≠ 0; omega)
  rw [this]; rfl

theorem in_pure (x a b : Int) : Pure prog 58 [iv x, iv a, iv b] (.bool (decide (a ≤ x ∧ x ≤ b))) := by
  refine pure_sym hE rfl ⟨trivial, trivial, trivial, trivial⟩ trivial fun S q hS hq hE => ?_
  conv => whnf
  by_cases h : a ≤ x
  · rw [show decide (x ≥ a) = true from decide_eq_true h]
    conv => whnf
    refine ⟨_, rfl, ?_⟩
    rw [show decide (a ≤ x ∧ x ≤ b) = decide (x ≤ b) by simp [h]]
    exact Wk.refl _
  · rw [show decide (x ≥ a) = false from decide_eq_false h]
    conv => whnf
    refine ⟨_, rfl, ?_⟩
    rw [show decide (a ≤ x ∧ x ≤ b) = false by simp [h]]
    exact Wk.refl _

theorem rin_pure (x a b : Int) : Pure prog 60 [iv x, iv a, iv b] (.bool (decide (a ≤ x ∧ x ≤ b))) := by
  refine pure_sym hE rfl ⟨trivial, trivial, trivial, trivial⟩ trivial fun S q hS hq hE => ?_
  conv => whnf
  by_cases h : a ≤ x
  · rw [show decide (x ≥ a) = true from decide_eq_true h]
    conv => whnf
    refine ⟨_, rfl, ?_⟩
    rw [show decide (a ≤ x ∧ x ≤ b) = decide (x ≤ b) by simp [h]]
    exact Wk.refl _
  · rw [show decide (x ≥ a) = false from decide_eq_false h]
    conv => whnf
    refine ⟨_, rfl, ?_⟩
    rw [show decide (a ≤ x ∧ x ≤ b) = false by simp [h]]
    exact Wk.refl _

/-- A fraction as defined. -/
def isF (a b : Int) : Prop := (0 ≤ a ∧ a ≤ 50000) ∧ 1 ≤ b ∧ b ≤ 50000
instance (a b : Int) : Decidable (isF a b) := by unfold isF; exact inferInstance

theorem isFraction_pure (a b : Int) : Pure prog 57 [fv a b] (.bool (decide (isF a b))) := by
  refine pure_sym hE rfl ⟨⟨trivial, trivial, trivial⟩, trivial⟩ trivial fun S q hS hq hE => ?_
  conv => whnf
  refine sym_pure hS (in_pure a 0 50000) ?_
  by_cases h : 0 ≤ a ∧ a ≤ 50000
  · rw [decide_eq_true h]
    conv => whnf
    refine sym_pure hS (in_pure b 1 50000) ?_
    conv => whnf
    refine ⟨_, rfl, ?_⟩
    rw [show decide (isF a b) = decide (1 ≤ b ∧ b ≤ 50000) by simp [isF, h]]
    exact Wk.refl _
  · rw [decide_eq_false h]
    conv => whnf
    refine ⟨_, rfl, ?_⟩
    rw [show decide (isF a b) = false from decide_eq_false (fun e : isF a b => h e.1)]
    exact Wk.refl _

theorem rFraction_pure (a b : Int) : Pure prog 17 [fv a b] (.bool (decide (isF a b))) := by
  refine pure_sym hE rfl ⟨⟨trivial, trivial, trivial⟩, trivial⟩ trivial fun S q hS hq hE => ?_
  conv => whnf
  refine sym_pure hS (rin_pure a 0 50000) ?_
  by_cases h : 0 ≤ a ∧ a ≤ 50000
  · rw [decide_eq_true h]
    conv => whnf
    refine sym_pure hS (rin_pure b 1 50000) ?_
    conv => whnf
    refine ⟨_, rfl, ?_⟩
    rw [show decide (isF a b) = decide (1 ≤ b ∧ b ≤ 50000) by simp [isF, h]]
    exact Wk.refl _
  · rw [decide_eq_false h]
    conv => whnf
    refine ⟨_, rfl, ?_⟩
    rw [show decide (isF a b) = false from decide_eq_false (fun e : isF a b => h e.1)]
    exact Wk.refl _

theorem rBound_pure (n : Int) : Pure prog 18 [iv n] (.bool (decide (1 ≤ n ∧ n ≤ 50000))) := by
  refine pure_sym hE rfl ⟨trivial, trivial⟩ trivial fun S q hS hq hE => ?_
  conv => whnf
  refine sym_pure hS (rin_pure n 1 50000) ?_
  conv => whnf
  exact ⟨_, rfl, Wk.refl _⟩

/-- What comparing tells: of numbers below a bound. -/
theorem compare_pure (a b c d : Nat) (h1 : a * d < 4611686018427387904) (h2 : c * b < 4611686018427387904) :
    Pure prog 56 [fv (Int.ofNat a) (Int.ofNat b), fv (Int.ofNat c) (Int.ofNat d)] (iv (Int.ofNat (a * d) - Int.ofNat (c * b))) := by
  refine pure_sym hE rfl ⟨⟨trivial, trivial, trivial⟩, ⟨trivial, trivial, trivial⟩, trivial⟩ trivial fun S q hS hq hE => ?_
  conv => whnf
  refine ⟨_, rfl, ?_⟩
  rw [show IntKind.i64.wrap (Int.ofNat a * Int.ofNat d) = Int.ofNat (a * d) from wrapN (m := a * d) (by omega), show IntKind.i64.wrap (Int.ofNat c * Int.ofNat b) = Int.ofNat (c * b) from wrapN (m := c * b) (by omega),
    wrapI (by show _ ≤ (_ : Int) - _; simp only [Int.ofNat_eq_natCast]; omega) (by simp only [Int.ofNat_eq_natCast]; omega)]
  exact Wk.refl _
/-- Fractions held against each other. -/
theorem eqFr (cst : Bool) (a b c d : Int) : q0 23 cst (fv a b) (fv c d) = @Bool.rec (fun _ => Option Bool) (some false) (@Bool.rec (fun _ => Option Bool) (some false) (some true) (b == d)) (a == c) := by kernel_rfl
theorem eqFr_same (cst : Bool) (a b : Int) : q0 23 cst (fv a b) (fv a b) = some true := by
  rw [eqFr, show (a == a) = true from beq_self_eq_true a, show (b == b) = true from beq_self_eq_true b]
theorem eqFr_ne (cst : Bool) (a b c d : Int) (h : ¬ (a = c ∧ b = d)) : q0 23 cst (fv a b) (fv c d) = some false := by
  rw [eqFr]
  by_cases h1 : a = c
  · rw [show (a == c) = true from beq_iff_eq.2 h1, show (b == d) = false from beq_eq_false_iff_ne.2 fun e => h ⟨h1, e⟩]
  · rw [show (a == c) = false from beq_eq_false_iff_ne.2 h1]
end Go.Abs.Seat
