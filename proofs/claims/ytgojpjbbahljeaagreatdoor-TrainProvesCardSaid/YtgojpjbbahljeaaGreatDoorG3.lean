/-
  What proves a best fraction: the program's and the document's.
-/
import Derived.Test.YtgojpjbbahljeaaGreatDoorG2
/-! What proves a best fraction: the program's and the document's. -/
namespace Go.Abs.Seat
open Go Go.Abs Go.Proofs.Tryz
set_option maxRecDepth 100000
set_option maxHeartbeats 4000000
attribute [local irreducible] IntKind.wrap pEq

/-- What a proof is: both in lowest terms, no greater denominators; both the fraction, or one on each side. -/
def prv (n d m a b c e : Nat) : Prop :=
  (Nat.gcd a b = 1 ∧ b ≤ m) ∧ (Nat.gcd c e = 1 ∧ e ≤ m) ∧ ((a * d = n * b ∧ c * d = n * e) ∨ (a * d < n * b ∧ n * e < c * d ∧ c * b = a * e + 1 ∧ m < b + e))
instance (n d m a b c e : Nat) : Decidable (prv n d m a b c e) := by unfold prv; exact inferInstance

theorem decT {p : Prop} [Decidable p] {b : Bool} (h : b = true ↔ p) : b = decide p := by
  cases b with
  | true => exact (decide_eq_true (h.1 rfl)).symm
  | false => exact (decide_eq_false fun hp => by cases h.2 hp).symm

theorem sub0 (a b : Nat) : (Int.ofNat a - Int.ofNat b == 0) = true ↔ a = b := by
  rw [beq_iff_eq]
  show (a : Int) - (b : Int) = 0 ↔ _
  omega
theorem sub1 (a b : Nat) : (Int.ofNat a - Int.ofNat b == 1) = true ↔ a = b + 1 := by
  rw [beq_iff_eq]
  show (a : Int) - (b : Int) = 1 ↔ _
  omega
theorem ne1 (a : Nat) : (Int.ofNat a != 1) = true ↔ a ≠ 1 := by
  rw [bne_iff_ne]
  show (a : Int) ≠ 1 ↔ _
  omega
theorem gtN (a b : Nat) : decide (Int.ofNat a > Int.ofNat b) = true ↔ b < a := by
  rw [decide_eq_true_eq]
  show (b : Int) < (a : Int) ↔ _
  omega

theorem ne1_t {a : Nat} (h : ¬ a = 1) : (Int.ofNat a != 1) = true := (ne1 _).2 h
theorem ne1_f {a : Nat} (h : a = 1) : (Int.ofNat a != 1) = false := Bool.eq_false_iff.2 fun e => (ne1 _).1 e h
theorem gtN_t {a b : Nat} (h : b < a) : decide (Int.ofNat a > Int.ofNat b) = true := (gtN _ _).2 h
theorem gtN_f {a b : Nat} (h : ¬ b < a) : decide (Int.ofNat a > Int.ofNat b) = false := Bool.eq_false_iff.2 fun e => h ((gtN _ _).1 e)
theorem sub0_t {a b : Nat} (h : a = b) : (Int.ofNat a - Int.ofNat b == 0) = true := (sub0 _ _).2 h
theorem sub0_f {a b : Nat} (h : ¬ a = b) : (Int.ofNat a - Int.ofNat b == 0) = false := Bool.eq_false_iff.2 fun e => h ((sub0 _ _).1 e)
theorem sub1_t {a b : Nat} (h : a = b + 1) : (Int.ofNat a - Int.ofNat b == 1) = true := (sub1 _ _).2 h
theorem sub1_f {a b : Nat} (h : ¬ a = b + 1) : (Int.ofNat a - Int.ofNat b == 1) = false := Bool.eq_false_iff.2 fun e => h ((sub1 _ _).1 e)
theorem gt0_t {a b : Nat} (h : b < a) : decide (Int.ofNat a - Int.ofNat b > 0) = true := (gt0 _ _).2 h
theorem gt0_f {a b : Nat} (h : ¬ b < a) : decide (Int.ofNat a - Int.ofNat b > 0) = false := Bool.eq_false_iff.2 fun e => h ((gt0 _ _).1 e)
theorem lt0_t {a b : Nat} (h : a < b) : decide (Int.ofNat a - Int.ofNat b < 0) = true := (lt0 _ _).2 h
theorem lt0_f {a b : Nat} (h : ¬ a < b) : decide (Int.ofNat a - Int.ofNat b < 0) = false := Bool.eq_false_iff.2 fun e => h ((lt0 _ _).1 e)

theorem proves_pure (n d m a b c e : Nat) (hn : n ≤ 50000) (hd : 1 ≤ d ∧ d ≤ 50000) (hm : 1 ≤ m ∧ m ≤ 50000) (ha : a ≤ 50000) (hb : 1 ≤ b ∧ b ≤ 50000) (hc : c ≤ 50000) (he : 1 ≤ e ∧ e ≤ 50000) :
    Pure prog 22 [fv (Int.ofNat n) (Int.ofNat d), nv m, fv (Int.ofNat a) (Int.ofNat b), fv (Int.ofNat c) (Int.ofNat e)] (.tup [.bool (decide (prv n d m a b c e)), iv 0]) := by
  refine pure_sym hE rfl ⟨⟨trivial, trivial, trivial⟩, trivial, ⟨trivial, trivial, trivial⟩, ⟨trivial, trivial, trivial⟩, trivial⟩ ⟨trivial, trivial, trivial⟩ fun S q hS hq hE => ?_
  have h1 : isF (Int.ofNat n) (Int.ofNat d) := by unfold isF; simp only [Int.ofNat_eq_natCast]; omega
  have h2 : (1 : Int) ≤ Int.ofNat m ∧ Int.ofNat m ≤ 50000 := by simp only [Int.ofNat_eq_natCast]; omega
  have h3 : isF (Int.ofNat a) (Int.ofNat b) := by unfold isF; simp only [Int.ofNat_eq_natCast]; omega
  have h4 : isF (Int.ofNat c) (Int.ofNat e) := by unfold isF; simp only [Int.ofNat_eq_natCast]; omega
  have b1 : a * d ≤ 50000 * 50000 := Nat.mul_le_mul ha hd.2
  have b2 : n * b ≤ 50000 * 50000 := Nat.mul_le_mul hn hb.2
  have b3 : c * d ≤ 50000 * 50000 := Nat.mul_le_mul hc hd.2
  have b4 : n * e ≤ 50000 * 50000 := Nat.mul_le_mul hn he.2
  have b5 : c * b ≤ 50000 * 50000 := Nat.mul_le_mul hc hb.2
  have b6 : a * e ≤ 50000 * 50000 := Nat.mul_le_mul ha he.2
  conv => whnf
  refine sym_pure hS (isFraction_pure _ _) ?_
  rw [decide_eq_true h1]
  conv => whnf
  refine sym_pure hS (in_pure _ 1 50000) ?_
  rw [decide_eq_true h2]
  conv => whnf
  refine sym_pure hS (isFraction_pure _ _) ?_
  rw [decide_eq_true h3]
  conv => whnf
  refine sym_pure hS (isFraction_pure _ _) ?_
  rw [decide_eq_true h4]
  conv => whnf
  refine sym_unroll hE hS ?_
  conv => whnf
  refine sym_pure hS (gcd_pure a b (by omega) (by omega)) ?_
  conv => whnf
  have ff : ∀ {p : Prop} [Decidable p], ¬ p → Wk (.tup [.bool false, iv 0]) (.tup [.bool (decide p), iv 0]) := fun h => by rw [decide_eq_false h]; exact Wk.refl _
  have tt : ∀ {p : Prop} [Decidable p], p → Wk (.tup [.bool true, iv 0]) (.tup [.bool (decide p), iv 0]) := fun h => by rw [decide_eq_true h]; exact Wk.refl _
  by_cases g1 : Nat.gcd a b = 1
  · rw [ne1_f g1]
    conv => whnf
    by_cases g2 : m < b
    · rw [gtN_t g2]
      conv => whnf
      exact ⟨_, rfl, ff fun h => by unfold prv at h; omega⟩
    rw [gtN_f g2]
    conv => whnf
    rw [show IntKind.i64.wrap (0 + 1) = 1 from wrapI (by decide) (by decide)]
    refine sym_unroll hE hS ?_
    conv => whnf
    refine sym_pure hS (gcd_pure c e (by omega) (by omega)) ?_
    conv => whnf
    by_cases g3 : Nat.gcd c e = 1
    · rw [ne1_f g3]
      conv => whnf
      by_cases g4 : m < e
      · rw [gtN_t g4]
        conv => whnf
        exact ⟨_, rfl, ff fun h => by unfold prv at h; omega⟩
      rw [gtN_f g4]
      conv => whnf
      rw [show IntKind.i64.wrap (1 + 1) = 2 from wrapI (by decide) (by decide)]
      refine sym_unroll hE hS ?_
      conv => whnf
      refine sym_pure hS (compare_pure a b n d (by omega) (by omega)) ?_
      conv => whnf
      by_cases p1 : a * d = n * b
      · rw [sub0_t p1]
        conv => whnf
        refine sym_pure hS (compare_pure c e n d (by omega) (by omega)) ?_
        conv => whnf
        by_cases p2 : c * d = n * e
        · rw [sub0_t p2]
          conv => whnf
          exact ⟨_, rfl, tt (by unfold prv; omega)⟩
        · rw [sub0_f p2]
          conv => whnf
          refine sym_pure hS (compare_pure a b n d (by omega) (by omega)) ?_
          conv => whnf
          rw [lt0_f (by omega)]
          conv => whnf
          exact ⟨_, rfl, ff fun h => by unfold prv at h; omega⟩
      · rw [sub0_f p1]
        conv => whnf
        refine sym_pure hS (compare_pure a b n d (by omega) (by omega)) ?_
        conv => whnf
        by_cases p2 : a * d < n * b
        · rw [lt0_t p2]
          conv => whnf
          refine sym_pure hS (compare_pure c e n d (by omega) (by omega)) ?_
          conv => whnf
          by_cases p3 : n * e < c * d
          · rw [gt0_t p3]
            conv => whnf
            refine sym_pure hS (compare_pure c e a b (by omega) (by omega)) ?_
            conv => whnf
            by_cases p4 : c * b = a * e + 1
            · rw [sub1_t p4]
              conv => whnf
              rw [addN (by omega)]
              by_cases p5 : m < b + e
              · rw [gtN_t p5]
                exact ⟨_, rfl, tt (by unfold prv; omega)⟩
              · rw [gtN_f p5]
                exact ⟨_, rfl, ff fun h => by unfold prv at h; omega⟩
            · rw [sub1_f p4]
              conv => whnf
              exact ⟨_, rfl, ff fun h => by unfold prv at h; omega⟩
          · rw [gt0_f p3]
            conv => whnf
            exact ⟨_, rfl, ff fun h => by unfold prv at h; omega⟩
        · rw [lt0_f p2]
          conv => whnf
          exact ⟨_, rfl, ff fun h => by unfold prv at h; omega⟩
    · rw [ne1_t g3]
      conv => whnf
      exact ⟨_, rfl, ff fun h => by unfold prv at h; omega⟩
  · rw [ne1_t g1]
    conv => whnf
    exact ⟨_, rfl, ff fun h => by unfold prv at h; omega⟩
end Go.Abs.Seat
