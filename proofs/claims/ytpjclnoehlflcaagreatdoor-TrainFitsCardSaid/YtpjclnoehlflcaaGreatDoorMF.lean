/-
  Contracts of small functions.
  The neighbors of a fraction.
  The best fraction.
  The document's neighbors.
  The best fraction, the program's and the document's.
  The document's best fraction; the first law.
-/
import Derived.Test.YtpjclnoehlflcaaGreatDoorMS
/-! Contracts of small functions. -/
namespace Go.Abs.Seat
open Go Go.Abs Go.Proofs.Tryz
set_option maxRecDepth 100000
set_option maxHeartbeats 4000000
attribute [local irreducible] IntKind.wrap pEq

abbrev iv (n : Int) : AV := .int .i64 n
abbrev nv (n : Nat) : AV := .int .i64 (Int.ofNat n)
abbrev fv (a b : Int) : AV := .agg [iv a, iv b]

theorem gt0 (a b : Nat) : decide (Int.ofNat a - Int.ofNat b > 0) = true ↔ b < a := by
  rw [decide_eq_true_eq]
  show (0 : Int) < (a : Int) - (b : Int) ↔ _
  omega
theorem lt0 (a b : Nat) : decide (Int.ofNat a - Int.ofNat b < 0) = true ↔ a < b := by
  rw [decide_eq_true_eq]
  show (a : Int) - (b : Int) < 0 ↔ _
  omega
theorem leN (a b : Nat) : decide (Int.ofNat a ≤ Int.ofNat b) = true ↔ a ≤ b := by
  rw [decide_eq_true_eq]
  show (a : Int) ≤ (b : Int) ↔ _
  omega
theorem ltN (a b : Nat) : decide (Int.ofNat a < Int.ofNat b) = true ↔ a < b := by
  rw [decide_eq_true_eq]
  show (a : Int) < (b : Int) ↔ _
  omega
theorem wrapSub1 {m : Nat} (h1 : 1 ≤ m) (h : m < 9223372036854775808) : IntKind.i64.wrap (Int.ofNat m - 1) = Int.ofNat (m - 1) := by
  rw [show Int.ofNat m - 1 = Int.ofNat (m - 1) by show (m : Int) - 1 = ((m - 1 : Nat) : Int); omega]
  exact wrapN (by omega)
theorem ne0 {d : Nat} (h : 1 ≤ d) : (!(Int.ofNat d == 0)) = true := by
  have : (Int.ofNat d == 0) = false := beq_eq_false_iff_ne.2 (by show (d : Int) ≠ 0; omega)
  rw [this]; rfl

theorem in_pure (x a b : Int) : Pure prog 103 [iv x, iv a, iv b] (.bool (decide (a ≤ x ∧ x ≤ b))) := by
  refine pure_sym hE rfl ⟨trivial, trivial, trivial, trivial⟩ trivial fun S q pc hS hq hC hE => ?_
  conv => whnf
  by_cases h : a ≤ x
  · rw [show decide (x ≥ a) = true from decide_eq_true h]
    conv => whnf
    refine ⟨_, rfl, ?_⟩
    rw [show decide (a ≤ x ∧ x ≤ b) = decide (x ≤ b) by simp [h]]
    exact Wk.refl _
  · rw [show decide (x ≥ a) = false from decide_eq_false h]
    conv => whnf
    refine ⟨_, rfl, ?_⟩
    rw [show decide (a ≤ x ∧ x ≤ b) = false by simp [h]]
    exact Wk.refl _

theorem rin_pure (x a b : Int) : Pure prog 77 [iv x, iv a, iv b] (.bool (decide (a ≤ x ∧ x ≤ b))) := by
  refine pure_sym hE rfl ⟨trivial, trivial, trivial, trivial⟩ trivial fun S q pc hS hq hC hE => ?_
  conv => whnf
  by_cases h : a ≤ x
  · rw [show decide (x ≥ a) = true from decide_eq_true h]
    conv => whnf
    refine ⟨_, rfl, ?_⟩
    rw [show decide (a ≤ x ∧ x ≤ b) = decide (x ≤ b) by simp [h]]
    exact Wk.refl _
  · rw [show decide (x ≥ a) = false from decide_eq_false h]
    conv => whnf
    refine ⟨_, rfl, ?_⟩
    rw [show decide (a ≤ x ∧ x ≤ b) = false by simp [h]]
    exact Wk.refl _

/-- A fraction as defined. -/
def isF (a b : Int) : Prop := (0 ≤ a ∧ a ≤ 50000) ∧ 1 ≤ b ∧ b ≤ 50000
instance (a b : Int) : Decidable (isF a b) := by unfold isF; exact inferInstance

theorem isFraction_pure (a b : Int) : Pure prog 64 [fv a b] (.bool (decide (isF a b))) := by
  refine pure_sym hE rfl ⟨⟨trivial, trivial, trivial⟩, trivial⟩ trivial fun S q pc hS hq hC hE => ?_
  conv => whnf
  refine sym_pure hC (in_pure a 0 50000) ?_
  by_cases h : 0 ≤ a ∧ a ≤ 50000
  · rw [decide_eq_true h]
    conv => whnf
    refine sym_pure hC (in_pure b 1 50000) ?_
    conv => whnf
    refine ⟨_, rfl, ?_⟩
    rw [show decide (isF a b) = decide (1 ≤ b ∧ b ≤ 50000) by simp [isF, h]]
    exact Wk.refl _
  · rw [decide_eq_false h]
    conv => whnf
    refine ⟨_, rfl, ?_⟩
    rw [show decide (isF a b) = false from decide_eq_false (fun e : isF a b => h e.1)]
    exact Wk.refl _

theorem rFraction_pure (a b : Int) : Pure prog 19 [fv a b] (.bool (decide (isF a b))) := by
  refine pure_sym hE rfl ⟨⟨trivial, trivial, trivial⟩, trivial⟩ trivial fun S q pc hS hq hC hE => ?_
  conv => whnf
  refine sym_pure hC (rin_pure a 0 50000) ?_
  by_cases h : 0 ≤ a ∧ a ≤ 50000
  · rw [decide_eq_true h]
    conv => whnf
    refine sym_pure hC (rin_pure b 1 50000) ?_
    conv => whnf
    refine ⟨_, rfl, ?_⟩
    rw [show decide (isF a b) = decide (1 ≤ b ∧ b ≤ 50000) by simp [isF, h]]
    exact Wk.refl _
  · rw [decide_eq_false h]
    conv => whnf
    refine ⟨_, rfl, ?_⟩
    rw [show decide (isF a b) = false from decide_eq_false (fun e : isF a b => h e.1)]
    exact Wk.refl _

/-- What comparing tells: of numbers below a bound. -/
theorem compare_pure (a b c d : Nat) (h1 : a * d < 4611686018427387904) (h2 : c * b < 4611686018427387904) :
    Pure prog 100 [fv (Int.ofNat a) (Int.ofNat b), fv (Int.ofNat c) (Int.ofNat d)] (iv (Int.ofNat (a * d) - Int.ofNat (c * b))) := by
  refine pure_sym hE rfl ⟨⟨trivial, trivial, trivial⟩, ⟨trivial, trivial, trivial⟩, trivial⟩ trivial fun S q pc hS hq hC hE => ?_
  conv => whnf
  refine ⟨_, rfl, ?_⟩
  rw [show IntKind.i64.wrap (Int.ofNat a * Int.ofNat d) = Int.ofNat (a * d) from wrapN (m := a * d) (by omega), show IntKind.i64.wrap (Int.ofNat c * Int.ofNat b) = Int.ofNat (c * b) from wrapN (m := c * b) (by omega),
    wrapI (by show _ ≤ (_ : Int) - _; simp only [Int.ofNat_eq_natCast]; omega) (by simp only [Int.ofNat_eq_natCast]; omega)]
  exact Wk.refl _
/-- Fractions held against each other. -/
theorem eqFr (cst : Bool) (a b c d : Int) : q0 23 cst (fv a b) (fv c d) = @Bool.rec (fun _ => Option Bool) (some false) (@Bool.rec (fun _ => Option Bool) (some false) (some true) (b == d)) (a == c) := by kernel_rfl
theorem eqFr_same (cst : Bool) (a b : Int) : q0 23 cst (fv a b) (fv a b) = some true := by
  rw [eqFr, show (a == a) = true from beq_self_eq_true a, show (b == b) = true from beq_self_eq_true b]
theorem eqFr_ne (cst : Bool) (a b c d : Int) (h : ¬ (a = c ∧ b = d)) : q0 23 cst (fv a b) (fv c d) = some false := by
  rw [eqFr]
  by_cases h1 : a = c
  · rw [show (a == c) = true from beq_iff_eq.2 h1, show (b == d) = false from beq_eq_false_iff_ne.2 fun e => h ⟨h1, e⟩]
  · rw [show (a == c) = false from beq_eq_false_iff_ne.2 h1]
end Go.Abs.Seat

/-! The neighbors of a fraction. -/
namespace Go.Abs.Seat
open Go Go.Abs Go.Proofs.Tryz
set_option maxRecDepth 100000
set_option maxHeartbeats 4000000
attribute [local irreducible] IntKind.wrap pEq

/-- The greatest of the fractions that are not greater, with denominators up to k + 1. -/
def lowS (n d : Nat) : Nat → Nat × Nat
  | 0 => (n / d, 1)
  | k + 1 => if (lowS n d k).1 * (k + 2) < n * (k + 2) / d * (lowS n d k).2 then (n * (k + 2) / d, k + 2) else lowS n d k

theorem lowS_le (n d : Nat) (hd : 1 ≤ d) : ∀ k, 1 ≤ (lowS n d k).2 ∧ (lowS n d k).2 ≤ k + 1 ∧ (lowS n d k).1 ≤ n * (k + 1)
  | 0 => ⟨Nat.le_refl _, Nat.le_refl _, by simp [lowS]; exact Nat.div_le_self _ _⟩
  | k + 1 => by
    have ih := lowS_le n d hd k
    unfold lowS
    split
    · exact ⟨by simp, Nat.le_refl _, Nat.div_le_self _ _⟩
    · exact ⟨ih.1, by omega, Nat.le_trans ih.2.2 (Nat.mul_le_mul_left _ (by omega))⟩

abbrev cell2 (a b : Int) (t : Nat) : AObj := .cells (.node (iv a) (.node (iv b) .nil .nil) .nil) 2 t

/-- The least of the fractions that are not less, with denominators up to k + 1. -/
def highS (n d : Nat) : Nat → Nat × Nat
  | 0 => ((n + d - 1) / d, 1)
  | k + 1 => if (n * (k + 2) + d - 1) / d * (highS n d k).2 < (highS n d k).1 * (k + 2) then ((n * (k + 2) + d - 1) / d, k + 2) else highS n d k

theorem upQ_le {a d : Nat} (hd : 1 ≤ d) : (a + d - 1) / d ≤ a + 1 := by
  have h1 : a + d - 1 ≤ (a + 1) * d := by
    rw [Nat.add_mul, Nat.one_mul]
    have := Nat.le_mul_of_pos_right a (show 0 < d by omega)
    omega
  calc (a + d - 1) / d ≤ (a + 1) * d / d := Nat.div_le_div_right h1
    _ = a + 1 := Nat.mul_div_cancel _ (by omega)

theorem highS_le (n d : Nat) (hd : 1 ≤ d) : ∀ k, 1 ≤ (highS n d k).2 ∧ (highS n d k).2 ≤ k + 1 ∧ (highS n d k).1 ≤ n * (k + 1) + 1
  | 0 => ⟨Nat.le_refl _, Nat.le_refl _, by simp only [highS, Nat.zero_add, Nat.mul_one]; exact upQ_le hd⟩
  | k + 1 => by
    have ih := highS_le n d hd k
    unfold highS
    split
    · exact ⟨by simp, Nat.le_refl _, upQ_le hd⟩
    · exact ⟨ih.1, by omega, Nat.le_trans ih.2.2 (Nat.add_le_add_right (Nat.mul_le_mul_left _ (by omega)) 1)⟩

end Go.Abs.Seat

/-! The best fraction. -/
namespace Go.Abs.Seat
open Go Go.Abs Go.Proofs.Tryz
set_option maxRecDepth 100000
set_option maxHeartbeats 4000000
attribute [local irreducible] IntKind.wrap pEq

end Go.Abs.Seat

/-! The document's neighbors. -/
namespace Go.Abs.Seat
open Go Go.Abs Go.Proofs.Tryz
set_option maxRecDepth 100000
set_option maxHeartbeats 4000000
attribute [local irreducible] IntKind.wrap pEq

theorem mulN {a b : Nat} (h : a * b < 9223372036854775808) : IntKind.i64.wrap (Int.ofNat a * Int.ofNat b) = Int.ofNat (a * b) := wrapN (m := a * b) h
theorem addN {a b : Nat} (h : a + b < 9223372036854775808) : IntKind.i64.wrap (Int.ofNat a + Int.ofNat b) = Int.ofNat (a + b) := wrapN (m := a + b) h
theorem add1 {a : Nat} (h : a + 1 < 9223372036854775808) : IntKind.i64.wrap (Int.ofNat a + 1) = Int.ofNat (a + 1) := wrapN (m := a + 1) h
theorem quoN {a b : Nat} (h : a < 9223372036854775808) : IntKind.i64.wrap ((Int.ofNat a).tdiv (Int.ofNat b)) = Int.ofNat (a / b) := wrapN (m := a / b) (Nat.lt_of_le_of_lt (Nat.div_le_self _ _) h)
theorem neN (a b : Nat) : (Int.ofNat a != Int.ofNat b) = true ↔ a ≠ b := by
  rw [bne_iff_ne]
  show (a : Int) ≠ (b : Int) ↔ _
  omega
theorem eqN (a b : Nat) : (Int.ofNat a == Int.ofNat b) = true ↔ a = b := by
  rw [beq_iff_eq]
  show (a : Int) = (b : Int) ↔ _
  omega

theorem up_eq {a d : Nat} (hd : 1 ≤ d) : (a + d - 1) / d = if a / d * d = a then a / d else a / d + 1 := by
  have h1 := Nat.div_add_mod a d
  have h2 := Nat.mod_lt a (show d > 0 by omega)
  have h3 : a / d * d = d * (a / d) := Nat.mul_comm _ _
  split
  · rename_i e
    have e1 : a + d - 1 = a / d * d + (d - 1) := by omega
    rw [e1, Nat.mul_comm, Nat.mul_add_div (by omega), Nat.div_eq_of_lt (show d - 1 < d by omega)]
    rfl
  · rename_i e
    have e1 : a + d - 1 = (a / d + 1) * d + (a % d - 1) := by
      rw [Nat.add_mul]
      have : a % d ≠ 0 := fun h => e (by omega)
      omega
    rw [e1, Nat.mul_comm, Nat.mul_add_div (by omega), Nat.div_eq_of_lt (show a % d - 1 < d by omega)]

end Go.Abs.Seat

/-! The best fraction, the program's and the document's. -/
namespace Go.Abs.Seat
open Go Go.Abs Go.Proofs.Tryz
set_option maxRecDepth 100000
set_option maxHeartbeats 4000000
attribute [local irreducible] IntKind.wrap pEq

theorem ltN_t {a b : Nat} (h : a < b) : decide (Int.ofNat a < Int.ofNat b) = true := (ltN _ _).2 h
theorem ltN_f {a b : Nat} (h : ¬ a < b) : decide (Int.ofNat a < Int.ofNat b) = false := Bool.eq_false_iff.2 fun e => h ((ltN _ _).1 e)
theorem leN_t {a b : Nat} (h : a ≤ b) : decide (Int.ofNat a ≤ Int.ofNat b) = true := (leN _ _).2 h
theorem leN_f {a b : Nat} (h : ¬ a ≤ b) : decide (Int.ofNat a ≤ Int.ofNat b) = false := Bool.eq_false_iff.2 fun e => h ((leN _ _).1 e)
theorem eqN_t {a b : Nat} (h : a = b) : (Int.ofNat a == Int.ofNat b) = true := (eqN _ _).2 h
theorem eqN_f {a b : Nat} (h : ¬ a = b) : (Int.ofNat a == Int.ofNat b) = false := Bool.eq_false_iff.2 fun e => h ((eqN _ _).1 e)
theorem subN {a b : Nat} (h : b ≤ a) : Int.ofNat a - Int.ofNat b = Int.ofNat (a - b) := by show (a : Int) - (b : Int) = ((a - b : Nat) : Int); omega
theorem negN {a b : Nat} (h : a ≤ b) (h2 : b < 9223372036854775808) : IntKind.i64.wrap (0 - (Int.ofNat a - Int.ofNat b)) = Int.ofNat (b - a) := by
  rw [show 0 - (Int.ofNat a - Int.ofNat b) = Int.ofNat (b - a) by show 0 - ((a : Int) - (b : Int)) = ((b - a : Nat) : Int); omega]
  exact wrapN (by omega)

theorem lowS_ok (n d : Nat) : ∀ k, (lowS n d k).1 * d ≤ n * (lowS n d k).2
  | 0 => by simp only [lowS, Nat.mul_one]; exact Nat.div_mul_le_self _ _
  | k + 1 => by
    have ih := lowS_ok n d k
    unfold lowS
    split
    · exact Nat.div_mul_le_self _ _
    · exact ih

theorem up_ok {a d : Nat} (hd : 1 ≤ d) : a ≤ (a + d - 1) / d * d := by
  have h1 := Nat.div_add_mod (a + d - 1) d
  have h2 := Nat.mod_lt (a + d - 1) (show d > 0 by omega)
  have h3 : (a + d - 1) / d * d = d * ((a + d - 1) / d) := Nat.mul_comm _ _
  omega

theorem highS_ok (n d : Nat) (hd : 1 ≤ d) : ∀ k, n * (highS n d k).2 ≤ (highS n d k).1 * d
  | 0 => by simp only [highS, Nat.mul_one]; exact up_ok hd
  | k + 1 => by
    have ih := highS_ok n d hd k
    unfold highS
    split
    · exact up_ok hd
    · exact ih

def nearS (n d : Nat) (L H : Nat × Nat) : Prop := (n * L.2 - L.1 * d) * H.2 < (H.1 * d - n * H.2) * L.2 ∨ (n * L.2 - L.1 * d) * H.2 = (H.1 * d - n * H.2) * L.2 ∧ L.2 ≤ H.2
instance (n d : Nat) (L H : Nat × Nat) : Decidable (nearS n d L H) := by unfold nearS; exact inferInstance

def bestS (n d k : Nat) : Nat × Nat := if nearS n d (lowS n d k) (highS n d k) then lowS n d k else highS n d k

structure Bds (n d : Nat) (L H : Nat × Nat) : Prop where
  l : L.1 * d ≤ n * L.2
  h : n * H.2 ≤ H.1 * d
  b1 : n * L.2 ≤ 2500000000
  b2 : H.1 * d ≤ 125000000050000
  b3 : (n * L.2 - L.1 * d) * H.2 ≤ 125000000000000
  b4 : (H.1 * d - n * H.2) * L.2 ≤ 6250000002500000000

theorem bds (n d k : Nat) (hn : n ≤ 50000) (hd : 1 ≤ d) (hd' : d ≤ 50000) (hk : k < 50000) : Bds n d (lowS n d k) (highS n d k) := by
  have hl := lowS_le n d hd k
  have hh := highS_le n d hd k
  have e1 : n * (lowS n d k).2 ≤ 50000 * 50000 := Nat.mul_le_mul hn (by omega)
  have e2 : n * (k + 1) ≤ 50000 * 50000 := Nat.mul_le_mul hn (by omega)
  have e3 : (highS n d k).1 * d ≤ 2500000001 * 50000 := Nat.mul_le_mul (by omega) hd'
  have e4 : (n * (lowS n d k).2 - (lowS n d k).1 * d) * (highS n d k).2 ≤ 2500000000 * 50000 := Nat.mul_le_mul (by omega) (by omega)
  have e5 : ((highS n d k).1 * d - n * (highS n d k).2) * (lowS n d k).2 ≤ 125000000050000 * 50000 := Nat.mul_le_mul (by omega) (by omega)
  exact ⟨lowS_ok n d k, highS_ok n d hd k, by omega, by omega, by omega, by omega⟩

end Go.Abs.Seat

/-! The document's best fraction; the first law. -/
namespace Go.Abs.Seat
open Go Go.Abs Go.Proofs.Tryz
set_option maxRecDepth 100000
set_option maxHeartbeats 4000000
attribute [local irreducible] IntKind.wrap pEq

/-- How far two numbers are apart. -/
def gapN (a b : Nat) : Nat := (a - b) + (b - a)

theorem maxI_gap {a b : Nat} (h1 : a < 9223372036854775808) (h2 : b < 9223372036854775808) :
    maxI (IntKind.i64.wrap (Int.ofNat a - Int.ofNat b)) (IntKind.i64.wrap (Int.ofNat b - Int.ofNat a)) = Int.ofNat (gapN a b) := by
  rw [wrapI (by show _ ≤ (a : Int) - (b : Int); omega) (by show (a : Int) - (b : Int) < _; omega), wrapI (by show _ ≤ (b : Int) - (a : Int); omega) (by show (b : Int) - (a : Int) < _; omega)]
  unfold maxI gapN
  show (if (b : Int) - (a : Int) > (a : Int) - (b : Int) then (b : Int) - (a : Int) else (a : Int) - (b : Int)) = (((a - b) + (b - a) : Nat) : Int)
  split <;> omega

theorem rAway_pure (n d a b : Nat) (h1 : a * d < 4611686018427387904) (h2 : n * b < 4611686018427387904) :
    Pure prog 97 [fv (Int.ofNat n) (Int.ofNat d), fv (Int.ofNat a) (Int.ofNat b)] (nv (gapN (a * d) (n * b))) := by
  refine pure_sym hE rfl ⟨⟨trivial, trivial, trivial⟩, ⟨trivial, trivial, trivial⟩, trivial⟩ trivial fun S q pc hS hq hC hE => ?_
  conv => whnf
  refine ⟨_, rfl, ?_⟩
  rw [mulN (a := a) (b := d) (by omega), mulN (a := n) (b := b) (by omega), maxI_gap (by omega) (by omega)]
  exact Wk.refl _

end Go.Abs.Seat
