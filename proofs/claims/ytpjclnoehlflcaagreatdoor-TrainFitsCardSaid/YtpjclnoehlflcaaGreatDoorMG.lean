/-
  Greatest common divisors; reducing.
  Reducing; which fraction is less; what proves a best fraction.
  What proves a best fraction: the program's and the document's.
  What proves a best fraction: the document's words.
-/
import Derived.Test.YtpjclnoehlflcaaGreatDoorMF
/-! Greatest common divisors; reducing. -/
namespace Go.Abs.Seat
open Go Go.Abs Go.Proofs.Tryz
set_option maxRecDepth 100000
set_option maxHeartbeats 4000000
attribute [local irreducible] IntKind.wrap pEq

theorem pos0 (a : Nat) : decide (Int.ofNat a > 0) = true ↔ 0 < a := by
  rw [decide_eq_true_eq]
  show (0 : Int) < (a : Int) ↔ _
  omega

theorem remN {a b : Nat} (h : a < 9223372036854775808) : IntKind.i64.wrap ((Int.ofNat a).tmod (Int.ofNat b)) = Int.ofNat (a % b) := by
  have : (Int.ofNat a).tmod (Int.ofNat b) = Int.ofNat (a % b) := rfl
  rw [this]
  exact wrapN (Nat.lt_of_le_of_lt (Nat.mod_le a b) h)

theorem gcd_pure (a b : Nat) (ha : a < 9223372036854775808) (hb : b < 9223372036854775808) :
    Pure prog 153 [nv a, nv b] (nv (Nat.gcd a b)) := by
  refine pure_sym hE rfl ⟨trivial, trivial, trivial⟩ trivial fun S q pc hS hq hC hE => ?_
  conv => whnf
  refine sym_loop hE hS (A := Nat × Nat) [4] (fun (x, y) => [(0, nv x), (1, nv y)]) (fun _ => []) (fun p => Nat.gcd p.1 p.2 = Nat.gcd a b ∧ p.1 < 9223372036854775808 ∧ p.2 < 9223372036854775808) (fun p => p.2) (a, b) rfl rfl
    ⟨rfl, rfl, rfl, rfl, by repeat' (first | exact trivial | exact rfl | exact Nat.zero_le _ | exact Nat.le_of_ble_eq_true rfl | apply And.intro),
      by repeat' (first | exact trivial | exact rfl | exact Nat.zero_le _ | exact Nat.le_of_ble_eq_true rfl | apply And.intro)⟩ ⟨rfl, ha, hb⟩ ?_
  rintro ⟨x, y⟩ ⟨hg, hx, hy⟩
  simp only at hg hx hy
  conv => whnf
  refine bool_if (p := 0 < y) (pos0 _) (fun hp => ?_) (fun hp => ?_)
  · conv => whnf
    refine bool_true (ne0 hp) ?_
    conv => whnf
    refine sym_drawn hS (by kernel_rfl) ?_
    conv => whnf
    refine ⟨(y, x % y), ⟨by rw [← hg]; show Nat.gcd y (x % y) = Nat.gcd x y; rw [Nat.gcd_comm x y, Nat.gcd_rec y x, Nat.gcd_comm], hy, Nat.lt_trans (Nat.mod_lt _ hp) hy⟩, Nat.mod_lt _ hp, ⟨rfl, rfl, rfl, rfl, by repeat' (first | exact trivial | exact rfl | exact Nat.zero_le _ | exact Nat.le_of_ble_eq_true rfl | apply And.intro), ?_⟩⟩
    repeat' (first | exact trivial | exact rfl | exact Nat.zero_le _ | exact Nat.le_of_ble_eq_true rfl | apply And.intro)
  · conv => whnf
    have hy0 : y = 0 := by omega
    subst hy0
    rw [Nat.gcd_zero_right] at hg
    subst hg
    exact ⟨_, rfl, Wk.refl _⟩
end Go.Abs.Seat

/-! Reducing; which fraction is less; what proves a best fraction. -/
namespace Go.Abs.Seat
open Go Go.Abs Go.Proofs.Tryz
set_option maxRecDepth 100000
set_option maxHeartbeats 4000000
attribute [local irreducible] IntKind.wrap pEq

theorem rGcd_pure (a b : Nat) (ha : a < 9223372036854775808) (hb : b < 9223372036854775808) :
    Pure prog 102 [nv a, nv b] (nv (Nat.gcd a b)) := by
  refine pure_sym hE rfl ⟨trivial, trivial, trivial⟩ trivial fun S q pc hS hq hC hE => ?_
  conv => whnf
  refine sym_loop hE hS (A := Nat × Nat) [4] (fun (x, y) => [(0, nv x), (1, nv y)]) (fun _ => []) (fun p => Nat.gcd p.1 p.2 = Nat.gcd a b ∧ p.1 < 9223372036854775808 ∧ p.2 < 9223372036854775808) (fun p => p.2) (a, b) rfl rfl
    ⟨rfl, rfl, rfl, rfl, by repeat' (first | exact trivial | exact rfl | exact Nat.zero_le _ | exact Nat.le_of_ble_eq_true rfl | apply And.intro),
      by repeat' (first | exact trivial | exact rfl | exact Nat.zero_le _ | exact Nat.le_of_ble_eq_true rfl | apply And.intro)⟩ ⟨rfl, ha, hb⟩ ?_
  rintro ⟨x, y⟩ ⟨hg, hx, hy⟩
  simp only at hg hx hy
  conv => whnf
  refine bool_if (p := 0 < y) (pos0 _) (fun hp => ?_) (fun hp => ?_)
  · conv => whnf
    refine bool_true (ne0 hp) ?_
    conv => whnf
    refine sym_drawn hS (by kernel_rfl) ?_
    conv => whnf
    refine ⟨(y, x % y), ⟨by rw [← hg]; show Nat.gcd y (x % y) = Nat.gcd x y; rw [Nat.gcd_comm x y, Nat.gcd_rec y x, Nat.gcd_comm], hy, Nat.lt_trans (Nat.mod_lt _ hp) hy⟩, Nat.mod_lt _ hp, ⟨rfl, rfl, rfl, rfl, by repeat' (first | exact trivial | exact rfl | exact Nat.zero_le _ | exact Nat.le_of_ble_eq_true rfl | apply And.intro), ?_⟩⟩
    repeat' (first | exact trivial | exact rfl | exact Nat.zero_le _ | exact Nat.le_of_ble_eq_true rfl | apply And.intro)
  · conv => whnf
    have hy0 : y = 0 := by omega
    subst hy0
    rw [Nat.gcd_zero_right] at hg
    subst hg
    exact ⟨_, rfl, Wk.refl _⟩

theorem wkb {b b' : Bool} (h : b = b') : Wk (.bool b) (.bool b') := by subst h; exact Wk.refl _

theorem gcd_pos_r {a b : Nat} (h : 1 ≤ b) : 1 ≤ Nat.gcd a b := Nat.gcd_pos_of_pos_right a h

theorem rReduced_pure (a b : Nat) (ha : a < 9223372036854775808) (hb : b < 9223372036854775808) (h1 : 1 ≤ b) :
    Pure prog 41 [fv (Int.ofNat a) (Int.ofNat b)] (fv (Int.ofNat (a / Nat.gcd a b)) (Int.ofNat (b / Nat.gcd a b))) := by
  refine pure_sym hE rfl ⟨⟨trivial, trivial, trivial⟩, trivial⟩ ⟨trivial, trivial, trivial⟩ fun S q pc hS hq hC hE => ?_
  conv => whnf
  refine sym_pure hC (rGcd_pure a b ha hb) ?_
  have hg : 1 ≤ Nat.gcd a b := gcd_pos_r h1
  generalize Nat.gcd a b = g at *
  conv => whnf
  refine bool_true (ne0 hg) ?_
  conv => whnf
  refine bool_true (ne0 hg) ?_
  conv => whnf
  refine sym_drawn hS (by kernel_rfl) ?_
  conv => whnf
  rw [quoN ha, quoN hb]
  exact ⟨_, rfl, Wk.refl _⟩

end Go.Abs.Seat

/-! What proves a best fraction: the program's and the document's. -/
namespace Go.Abs.Seat
open Go Go.Abs Go.Proofs.Tryz
set_option maxRecDepth 100000
set_option maxHeartbeats 4000000
attribute [local irreducible] IntKind.wrap pEq

/-- What a proof is: both in lowest terms, no greater denominators; both the fraction, or one on each side. -/
def prv (n d m a b c e : Nat) : Prop :=
  (Nat.gcd a b = 1 ∧ b ≤ m) ∧ (Nat.gcd c e = 1 ∧ e ≤ m) ∧ ((a * d = n * b ∧ c * d = n * e) ∨ (a * d < n * b ∧ n * e < c * d ∧ c * b = a * e + 1 ∧ m < b + e))
instance (n d m a b c e : Nat) : Decidable (prv n d m a b c e) := by unfold prv; exact inferInstance

theorem decT {p : Prop} [Decidable p] {b : Bool} (h : b = true ↔ p) : b = decide p := by
  cases b with
  | true => exact (decide_eq_true (h.1 rfl)).symm
  | false => exact (decide_eq_false fun hp => by cases h.2 hp).symm

theorem sub0 (a b : Nat) : (Int.ofNat a - Int.ofNat b == 0) = true ↔ a = b := by
  rw [beq_iff_eq]
  show (a : Int) - (b : Int) = 0 ↔ _
  omega
theorem sub1 (a b : Nat) : (Int.ofNat a - Int.ofNat b == 1) = true ↔ a = b + 1 := by
  rw [beq_iff_eq]
  show (a : Int) - (b : Int) = 1 ↔ _
  omega
theorem ne1 (a : Nat) : (Int.ofNat a != 1) = true ↔ a ≠ 1 := by
  rw [bne_iff_ne]
  show (a : Int) ≠ 1 ↔ _
  omega
theorem gtN (a b : Nat) : decide (Int.ofNat a > Int.ofNat b) = true ↔ b < a := by
  rw [decide_eq_true_eq]
  show (b : Int) < (a : Int) ↔ _
  omega

theorem ne1_t {a : Nat} (h : ¬ a = 1) : (Int.ofNat a != 1) = true := (ne1 _).2 h
theorem ne1_f {a : Nat} (h : a = 1) : (Int.ofNat a != 1) = false := Bool.eq_false_iff.2 fun e => (ne1 _).1 e h
theorem gtN_t {a b : Nat} (h : b < a) : decide (Int.ofNat a > Int.ofNat b) = true := (gtN _ _).2 h
theorem gtN_f {a b : Nat} (h : ¬ b < a) : decide (Int.ofNat a > Int.ofNat b) = false := Bool.eq_false_iff.2 fun e => h ((gtN _ _).1 e)
theorem sub0_t {a b : Nat} (h : a = b) : (Int.ofNat a - Int.ofNat b == 0) = true := (sub0 _ _).2 h
theorem sub0_f {a b : Nat} (h : ¬ a = b) : (Int.ofNat a - Int.ofNat b == 0) = false := Bool.eq_false_iff.2 fun e => h ((sub0 _ _).1 e)
theorem sub1_t {a b : Nat} (h : a = b + 1) : (Int.ofNat a - Int.ofNat b == 1) = true := (sub1 _ _).2 h
theorem sub1_f {a b : Nat} (h : ¬ a = b + 1) : (Int.ofNat a - Int.ofNat b == 1) = false := Bool.eq_false_iff.2 fun e => h ((sub1 _ _).1 e)
theorem gt0_t {a b : Nat} (h : b < a) : decide (Int.ofNat a - Int.ofNat b > 0) = true := (gt0 _ _).2 h
theorem gt0_f {a b : Nat} (h : ¬ b < a) : decide (Int.ofNat a - Int.ofNat b > 0) = false := Bool.eq_false_iff.2 fun e => h ((gt0 _ _).1 e)
theorem lt0_t {a b : Nat} (h : a < b) : decide (Int.ofNat a - Int.ofNat b < 0) = true := (lt0 _ _).2 h
theorem lt0_f {a b : Nat} (h : ¬ a < b) : decide (Int.ofNat a - Int.ofNat b < 0) = false := Bool.eq_false_iff.2 fun e => h ((lt0 _ _).1 e)

end Go.Abs.Seat

/-! What proves a best fraction: the document's words. -/
namespace Go.Abs.Seat
open Go Go.Abs Go.Proofs.Tryz
set_option maxRecDepth 100000
set_option maxHeartbeats 4000000
attribute [local irreducible] IntKind.wrap pEq

theorem red_ne {a b : Nat} (hb : 1 ≤ b) (h : ¬ Nat.gcd a b = 1) : ¬ (Int.ofNat (a / Nat.gcd a b) = Int.ofNat a ∧ Int.ofNat (b / Nat.gcd a b) = Int.ofNat b) := by
  rintro ⟨_, h2⟩
  have hg : 1 ≤ Nat.gcd a b := gcd_pos_r hb
  have : b / Nat.gcd a b < b := Nat.div_lt_self (by omega) (by omega)
  have h3 : b / Nat.gcd a b = b := Int.ofNat.inj h2
  omega

/-- Two fractions in lowest terms that are equal are one. -/
theorem low_unique {a b c e : Nat} (hb : 1 ≤ b) (he : 1 ≤ e) (g1 : Nat.gcd a b = 1) (g2 : Nat.gcd c e = 1) (h : a * e = c * b) : a = c ∧ b = e := by
  have h1 : b ∣ e := by
    have : b ∣ a * e := ⟨c, by rw [h, Nat.mul_comm]⟩
    exact Nat.Coprime.dvd_of_dvd_mul_left (Nat.Coprime.symm g1) this
  have h2 : e ∣ b := by
    have : e ∣ c * b := ⟨a, by rw [← h, Nat.mul_comm]⟩
    exact Nat.Coprime.dvd_of_dvd_mul_left (Nat.Coprime.symm g2) this
  have hbe : b = e := Nat.dvd_antisymm h1 h2
  subst hbe
  exact ⟨Nat.eq_of_mul_eq_mul_right (by omega) h, rfl⟩

theorem red_mul {n d : Nat} (hd : 1 ≤ d) : n / Nat.gcd n d * d = n * (d / Nat.gcd n d) := by
  obtain ⟨x, hx⟩ := Nat.gcd_dvd_left n d
  obtain ⟨y, hy⟩ := Nat.gcd_dvd_right n d
  have hg : 1 ≤ Nat.gcd n d := gcd_pos_r hd
  generalize Nat.gcd n d = g at *
  have e1 : n / g = x := by rw [hx]; exact Nat.mul_div_cancel_left x (by omega)
  have e2 : d / g = y := by rw [hy]; exact Nat.mul_div_cancel_left y (by omega)
  rw [e1, e2, hx, hy, ← Nat.mul_assoc, Nat.mul_comm x g]

theorem red_gcd {n d : Nat} (hd : 1 ≤ d) : Nat.gcd (n / Nat.gcd n d) (d / Nat.gcd n d) = 1 ∧ 1 ≤ d / Nat.gcd n d := by
  have hg : 1 ≤ Nat.gcd n d := gcd_pos_r hd
  refine ⟨by rw [Nat.gcd_div (Nat.gcd_dvd_left n d) (Nat.gcd_dvd_right n d)]; exact Nat.div_self (by omega), ?_⟩
  exact Nat.div_pos (Nat.le_of_dvd (by omega) (Nat.gcd_dvd_right n d)) (by omega)

theorem isRed {n d a b : Nat} (hd : 1 ≤ d) (hb : 1 ≤ b) (g : Nat.gcd a b = 1) : (a = n / Nat.gcd n d ∧ b = d / Nat.gcd n d) ↔ a * d = n * b := by
  have hm := red_mul (n := n) hd
  have hr := red_gcd (n := n) hd
  constructor
  · rintro ⟨rfl, rfl⟩
    exact hm
  · intro h
    refine low_unique hb hr.2 g hr.1 (Nat.eq_of_mul_eq_mul_right (show 0 < d by omega) ?_)
    generalize n / Nat.gcd n d = x at *
    generalize d / Nat.gcd n d = y at *
    calc a * y * d = a * d * y := by rw [Nat.mul_right_comm]
      _ = n * b * y := by rw [h]
      _ = n * y * b := by rw [Nat.mul_right_comm]
      _ = x * d * b := by rw [hm]
      _ = x * b * d := by rw [Nat.mul_right_comm]

theorem prv_same {n d m a b : Nat} (hd : 1 ≤ d) (hb : 1 ≤ b) (g : Nat.gcd a b = 1) (hm : b ≤ m) : prv n d m a b a b ↔ (a = n / Nat.gcd n d ∧ b = d / Nat.gcd n d) := by
  rw [isRed hd hb g]
  unfold prv
  omega

theorem prv_diff {n d m a b c e : Nat} (hd : 1 ≤ d) (hb : 1 ≤ b) (he : 1 ≤ e) (g : Nat.gcd a b = 1) (g' : Nat.gcd c e = 1) (hm : b ≤ m) (hm' : e ≤ m) (h : ¬ (a = c ∧ b = e)) :
    prv n d m a b c e ↔ (a * d < n * b ∧ n * e < c * d ∧ c * b = a * e + 1 ∧ m < b + e) := by
  have : ¬ (a * d = n * b ∧ c * d = n * e) := by
    rintro ⟨h1, h2⟩
    have q1 := (isRed hd hb g).2 h1
    have q2 := (isRed hd he g').2 h2
    exact h ⟨q1.1.trans q2.1.symm, q1.2.trans q2.2.symm⟩
  unfold prv
  exact ⟨fun q => q.2.2.resolve_left this, fun q => ⟨⟨g, hm⟩, ⟨g', hm'⟩, .inr q⟩⟩

/-- Truth values held against each other. -/
theorem eqBool (cst b c : Bool) : q0 4 cst (.bool b) (.bool c) = some (b == c) := by kernel_rfl
theorem eqBool_same (cst b : Bool) : q0 4 cst (.bool b) (.bool b) = some true := by rw [eqBool, beq_self_eq_true]

theorem isF_nat {a b : Int} (h : isF a b) : ∃ x y : Nat, a = Int.ofNat x ∧ b = Int.ofNat y ∧ x ≤ 50000 ∧ 1 ≤ y ∧ y ≤ 50000 := by
  unfold isF at h
  refine ⟨a.toNat, b.toNat, ?_, ?_, ?_, ?_, ?_⟩
  · show a = ((a.toNat : Nat) : Int); omega
  · show b = ((b.toNat : Nat) : Int); omega
  · omega
  · omega
  · omega

theorem isF_N {a b : Nat} (h1 : a ≤ 50000) (h2 : 1 ≤ b) (h3 : b ≤ 50000) : isF (Int.ofNat a) (Int.ofNat b) := by unfold isF; simp only [Int.ofNat_eq_natCast]; omega

end Go.Abs.Seat
