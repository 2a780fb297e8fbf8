/-
  A hand that never goes wrong, and how far a hand is away from it.
-/
import Derived.Test.YtpjclnoehlflcaaGreatDoorT11
/-! A hand that never goes wrong, and how far a hand is away from it. -/
namespace Go.Abs.Seat
open Go Go.Abs Go.Proofs.Tryz
set_option maxRecDepth 100000
set_option maxHeartbeats 4000000
attribute [local irreducible] IntKind.wrap pEq

/-- Where a hand that turns by n / d is after t turns. -/
def riV (n d t : Nat) : Nat := n * t % d * 21600 / d

theorem rRight_pure (n d t : Nat) (hn : n ≤ 50000) (hd : 1 ≤ d ∧ d ≤ 50000) (ht : t ≤ 10000) : Pure prog 28 [fv (Int.ofNat n) (Int.ofNat d), nv t] (nv (riV n d t)) := by
  have b1 : n * t ≤ 50000 * 10000 := Nat.mul_le_mul hn ht
  have b2 := Nat.mod_lt (n * t) hd.1
  unfold riV
  refine pure_sym hE rfl (by repeat' (first | exact trivial | assumption | exact flat_no _ | exact (fun _ h => nomatch h) | apply And.intro)) (by repeat' (first | exact trivial | assumption | exact flat_no _ | exact (fun _ h => nomatch h) | apply And.intro)) fun S q pc hS hq hC hE => ?_
  conv => whnf
  refine bool_true (ne0 hd.1) ?_
  conv => whnf
  refine bool_true (ne0 hd.1) ?_
  conv => whnf
  refine sym_drawn hS (by kernel_rfl) ?_
  conv => whnf
  rw [mulN (a := n) (b := t) (by omega), tmodN, circN (by omega), quoN (by omega)]
  exact ⟨_, rfl, Wk.refl _⟩

theorem add_div2 (p q D : Nat) (hD : 1 ≤ D) : (p + q) / D = p / D + q / D ∨ (p + q) / D = p / D + q / D + 1 := by
  have h1 : p / D + q / D ≤ (p + q) / D := (Nat.le_div_iff_mul_le hD).2 (by rw [Nat.add_mul]; exact Nat.add_le_add (Nat.div_mul_le_self p D) (Nat.div_mul_le_self q D))
  have h2 : (p + q) / D < p / D + q / D + 2 := (Nat.div_lt_iff_lt_mul hD).2 (by
    have a := Nat.lt_mul_div_succ p hD
    have b := Nat.lt_mul_div_succ q hD
    have : (p / D + q / D + 2) * D = D * (p / D + 1) + D * (q / D + 1) := by rw [Nat.mul_comm, ← Nat.mul_add]; congr 1; omega
    omega)
  omega

theorem angle (X D : Nat) (hD : 1 ≤ D) : X * 21600 / D = X % D * 21600 / D + 21600 * (X / D) := by
  have e := Nat.div_add_mod X D
  have e2 : X * 21600 = D * (21600 * (X / D)) + X % D * 21600 := by
    conv => lhs; rw [← e]
    rw [Nat.add_mul, Nat.mul_assoc, Nat.mul_comm (X / D)]
  rw [e2, Nat.mul_add_div hD, Nat.add_comm]
theorem angle_lt (X D : Nat) (hD : 1 ≤ D) : X % D * 21600 / D < 21600 := Nat.div_lt_of_lt_mul (by have := Nat.mod_lt X hD; omega)

theorem trV_tmod (p q D : Nat) : (trV p q D).tmod 21600 = dN ((p - q) / D % 21600) ((q - p) / D % 21600) := by
  unfold trV
  by_cases h : q ≤ p
  · have e := dN_tmod (p := (p - q) / D) (q := 0) (b := 21600)
    rw [Nat.sub_zero, Nat.zero_sub] at e
    rw [show q - p = 0 by omega, Nat.zero_div]
    exact e
  · have e := dN_tmod (p := 0) (q := (q - p) / D) (b := 21600)
    rw [Nat.sub_zero, Nat.zero_sub] at e
    rw [show p - q = 0 by omega, Nat.zero_div]
    exact e

theorem far_up {a b A B G ka kb : Nat} {o : Int} (a1 : a < 21600) (b1 : b < 21600) (ea : A = a + 21600 * ka) (eb : B = b + 21600 * kb) (e : A = B + G ∨ A = B + G + 1) (ho : dN (G % 21600) (0 % 21600) = o) :
    (a < 21600 ∧ b < 21600 ∧ -21600 < o ∧ o < 21600) ∧ (((a : Int) - b - o + 43200).tmod 21600 = 0 ∨ ((a : Int) - b - o + 43200).tmod 21600 = 1 ∨ ((a : Int) - b - o + 43200).tmod 21600 = 21599) := by
  have ho : ((G % 21600 : Nat) : Int) - ((0 % 21600 : Nat) : Int) = o := ho
  have hx : 0 ≤ (a : Int) - b - o + 43200 := by omega
  rw [Int.tmod_eq_emod_of_nonneg hx]
  omega
theorem far_dn {a b A B G ka kb : Nat} {o : Int} (a1 : a < 21600) (b1 : b < 21600) (ea : A = a + 21600 * ka) (eb : B = b + 21600 * kb) (e : B = A + G ∨ B = A + G + 1) (ho : dN (0 % 21600) (G % 21600) = o) :
    (a < 21600 ∧ b < 21600 ∧ -21600 < o ∧ o < 21600) ∧ (((a : Int) - b - o + 43200).tmod 21600 = 0 ∨ ((a : Int) - b - o + 43200).tmod 21600 = 1 ∨ ((a : Int) - b - o + 43200).tmod 21600 = 21599) := by
  have ho : ((0 % 21600 : Nat) : Int) - ((G % 21600 : Nat) : Int) = o := ho
  have hx : 0 ≤ (a : Int) - b - o + 43200 := by omega
  rw [Int.tmod_eq_emod_of_nonneg hx]
  omega

/-- Two hands, one of which is off against the other. -/
theorem far_ok (c p q D : Nat) (hD : 1 ≤ D) {a b : Nat} (ha : (c + p) % D * 21600 / D = a) (hb : (c + q) % D * 21600 / D = b) {o : Int} (ho : (trV (p * 21600) (q * 21600) D).tmod 21600 = o) :
    (a < 21600 ∧ b < 21600 ∧ -21600 < o ∧ o < 21600) ∧ (((a : Int) - b - o + 43200).tmod 21600 = 0 ∨ ((a : Int) - b - o + 43200).tmod 21600 = 1 ∨ ((a : Int) - b - o + 43200).tmod 21600 = 21599) := by
  have a1 := angle_lt (c + p) D hD
  have b1 := angle_lt (c + q) D hD
  have ea := angle (c + p) D hD
  have eb := angle (c + q) D hD
  rw [ha] at ea a1
  rw [hb] at eb b1
  rw [trV_tmod] at ho
  by_cases h : q ≤ p
  · rw [show q * 21600 - p * 21600 = 0 by omega, Nat.zero_div, show p * 21600 - q * 21600 = (p - q) * 21600 by omega] at ho
    have e := add_div2 ((c + q) * 21600) ((p - q) * 21600) D hD
    rw [show (c + q) * 21600 + (p - q) * 21600 = (c + p) * 21600 by omega] at e
    exact far_up a1 b1 ea eb e ho
  · rw [show p * 21600 - q * 21600 = 0 by omega, Nat.zero_div, show q * 21600 - p * 21600 = (q - p) * 21600 by omega] at ho
    have e := add_div2 ((c + p) * 21600) ((q - p) * 21600) D hD
    rw [show (c + p) * 21600 + (q - p) * 21600 = (c + q) * 21600 by omega] at e
    exact far_dn a1 b1 ea eb e ho

theorem riV_eq (n d t y : Nat) (hy : 1 ≤ y) : riV n d t = n * t * y % (y * d) * 21600 / (y * d) := by
  unfold riV
  rw [Nat.mul_comm (n * t) y, Nat.mul_mod_mul_left, Nat.mul_assoc, Nat.mul_div_mul_left _ _ hy]

/-- A hand that is set, and one that never goes wrong. -/
theorem right_far (x y n d T u : Nat) (hy : 1 ≤ y) (hd : 1 ≤ d) (hT : T ≤ u) {o : Int} (ho : (offV x y n d (u - T)).tmod 21600 = o) :
    (shV x y n d T u < 21600 ∧ riV n d u < 21600 ∧ -21600 < o ∧ o < 21600) ∧ ((((shV x y n d T u : Nat) : Int) - (riV n d u : Nat) - o + 43200).tmod 21600 = 0 ∨ (((shV x y n d T u : Nat) : Int) - (riV n d u : Nat) - o + 43200).tmod 21600 = 1 ∨ (((shV x y n d T u : Nat) : Int) - (riV n d u : Nat) - o + 43200).tmod 21600 = 21599) := by
  have e1 : n * T * y + n * y * (u - T) = n * u * y := by
    rw [Nat.mul_right_comm n T y, ← Nat.mul_add, show T + (u - T) = u by omega, Nat.mul_right_comm]
  have e2 : x * (u - T) * d = x * d * (u - T) := Nat.mul_right_comm ..
  refine far_ok (n * T * y) (x * d * (u - T)) (n * y * (u - T)) (y * d) (Nat.mul_pos hy hd) ?_ ?_ ho
  · unfold shV
    rw [e2]
  · rw [e1]
    exact (riV_eq n d u y hy).symm
theorem right_set (x y n d T : Nat) (hy : 1 ≤ y) : shV x y n d T T = riV n d T := by
  rw [riV_eq n d T y hy]
  unfold shV
  rw [Nat.sub_self, Nat.mul_zero, Nat.zero_mul, Nat.add_zero]

theorem lastD_last (u : Int) : ∀ (l : List Int) (t : Int), t ≤ u → (∀ i, i + 1 < l.length → gi l i < gi l (i + 1)) → (0 < l.length → t < gi l 0) → lastD (lastD u t l) t l = lastD u t l
  | [], t, _, _, _ => rfl
  | x :: r, t, ht, hs, h0 => by
    have hx := h0 (Nat.succ_pos _)
    have hx : t < x := hx
    have hr : 0 < r.length → x < gi r 0 := fun h => hs 0 (by simpa using h)
    have hs' : ∀ i, i + 1 < r.length → gi r i < gi r (i + 1) := fun i hi => hs (i + 1) (by simpa using hi)
    have e : lastD u t (x :: r) = if x ≤ u then lastD u x r else t := rfl
    by_cases h : x ≤ u
    · have ih := lastD_last u r x h hs' hr
      rw [e, if_pos h]
      have hle : x ≤ lastD u x r := by
        have : ∀ (r : List Int) (x : Int), (∀ i, i + 1 < r.length → gi r i < gi r (i + 1)) → (0 < r.length → x < gi r 0) → x ≤ lastD u x r := by
          intro r
          induction r with
          | nil => intro x _ _; exact Int.le_refl _
          | cons y r ih =>
            intro x h1 h2
            have h3 := h2 (Nat.succ_pos _)
            have h3 : x < y := h3
            show x ≤ if y ≤ u then lastD u y r else x
            split
            · have := ih y (fun i hi => h1 (i + 1) (by simpa using hi)) fun h => h1 0 (by simpa using h)
              omega
            · exact Int.le_refl _
        exact this r x hs' hr
      show (if x ≤ lastD u x r then lastD (lastD u x r) x r else t) = _
      rw [if_pos hle, ih]
    · rw [e, if_neg h]
      show (if x ≤ t then lastD t x r else t) = t
      rw [if_neg (by omega)]
end Go.Abs.Seat
