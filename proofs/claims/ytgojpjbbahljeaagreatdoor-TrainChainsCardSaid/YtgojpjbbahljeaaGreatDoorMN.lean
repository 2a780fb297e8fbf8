/-
  Plain numbers: neighbors of a fraction are a proof of it, and the best fraction is one of them.
  Plain numbers: both neighbors are a proof; the best one of them is at least as near as any other.
-/
import Derived.Test.YtgojpjbbahljeaaGreatDoorMF
import Derived.Test.YtgojpjbbahljeaaGreatDoorMG
/-! Plain numbers: neighbors of a fraction are a proof of it, and the best fraction is one of them. -/
namespace Go.Abs.Seat

/-- The greatest one: nothing with such a denominator that is not greater is above it. -/
theorem lowS_best (n d : Nat) (hd : 1 ≤ d) : ∀ k p q, 1 ≤ p → p ≤ k + 1 → q * d ≤ n * p → q * (lowS n d k).2 ≤ (lowS n d k).1 * p
  | 0, p, q, h1, h2, h => by
    have hp : p = 1 := by omega
    subst hp
    simp only [lowS, Nat.mul_one] at h ⊢
    exact (Nat.le_div_iff_mul_le (by omega)).2 h
  | k + 1, p, q, h1, h2, h => by
    have ih := lowS_best n d hd k p q h1
    have hl := (lowS_le n d hd k).1
    rw [lowS]
    generalize lowS n d k = L at *
    obtain ⟨a, b⟩ := L
    simp only at hl ih ⊢
    by_cases hp : p ≤ k + 1
    · have ih := ih hp h
      split
      · rename_i hc
        simp only
        generalize n * (k + 2) / d = c at *
        refine Nat.le_of_mul_le_mul_right (c := b) ?_ hl
        have a1 : q * b * (k + 2) ≤ a * p * (k + 2) := Nat.mul_le_mul_right _ ih
        have a2 : a * (k + 2) * p ≤ c * b * p := Nat.mul_le_mul_right p (Nat.le_of_lt hc)
        grind
      · exact ih
    · have hp : p = k + 2 := by omega
      subst hp
      have hq : q ≤ n * (k + 2) / d := (Nat.le_div_iff_mul_le (by omega)).2 h
      generalize n * (k + 2) / d = c at *
      split
      · exact Nat.mul_le_mul_right _ hq
      · rename_i hc
        exact Nat.le_trans (Nat.mul_le_mul_right _ hq) (Nat.le_of_not_lt hc)

/-- .. and of those that are equal it has the least denominator. -/
theorem lowS_min (n d : Nat) (hd : 1 ≤ d) : ∀ k p q, 1 ≤ p → p ≤ k + 1 → q * (lowS n d k).2 = (lowS n d k).1 * p → (lowS n d k).2 ≤ p
  | 0, p, q, h1, h2, h => by simp only [lowS]; exact h1
  | k + 1, p, q, h1, h2, h => by
    have ih := lowS_min n d hd k p q h1
    have hl := lowS_le n d hd k
    have hb := lowS_best n d hd k p q h1
    rw [lowS] at h ⊢
    have hcd : n * (k + 2) / d * d ≤ n * (k + 2) := Nat.div_mul_le_self _ _
    generalize n * (k + 2) / d = c at *
    generalize lowS n d k = L at *
    obtain ⟨a, b⟩ := L
    simp only at hl ih hb h ⊢
    by_cases hp : p ≤ k + 1
    · by_cases hc : a * (k + 2) < c * b
      · rw [if_pos hc] at h ⊢
        simp only at h ⊢
        exfalso
        have hq : q * d ≤ n * p := by
          refine Nat.le_of_mul_le_mul_right (c := k + 2) ?_ (by omega)
          have a1 : c * d * p ≤ n * (k + 2) * p := Nat.mul_le_mul_right p hcd
          have a2 : q * (k + 2) * d = c * p * d := by rw [h]
          grind
        have hb := hb hp hq
        have a1 : q * b * (k + 2) ≤ a * p * (k + 2) := Nat.mul_le_mul_right _ hb
        have a2 : a * (k + 2) * p < c * b * p := Nat.mul_lt_mul_of_pos_right hc (by omega)
        have a3 : q * (k + 2) * b = c * p * b := by rw [h]
        grind
      · rw [if_neg hc] at h ⊢
        exact ih hp h
    · split
      · simp only; omega
      · simp only; omega

theorem up_le {a d q : Nat} (hd : 1 ≤ d) (h : a ≤ q * d) : (a + d - 1) / d ≤ q := by
  have : a + d - 1 < (q + 1) * d := by rw [Nat.add_mul]; omega
  have := (Nat.div_lt_iff_lt_mul (show 0 < d by omega)).2 this
  omega

theorem highS_best (n d : Nat) (hd : 1 ≤ d) : ∀ k p q, 1 ≤ p → p ≤ k + 1 → n * p ≤ q * d → (highS n d k).1 * p ≤ q * (highS n d k).2
  | 0, p, q, h1, h2, h => by
    have hp : p = 1 := by omega
    subst hp
    simp only [highS, Nat.mul_one] at h ⊢
    exact up_le hd h
  | k + 1, p, q, h1, h2, h => by
    have ih := highS_best n d hd k p q h1
    have hl := (highS_le n d hd k).1
    rw [highS]
    generalize highS n d k = L at *
    obtain ⟨a, b⟩ := L
    simp only at hl ih ⊢
    by_cases hp : p ≤ k + 1
    · have ih := ih hp h
      split
      · rename_i hc
        simp only
        generalize (n * (k + 2) + d - 1) / d = c at *
        refine Nat.le_of_mul_le_mul_right (c := b) ?_ hl
        have a1 : a * p * (k + 2) ≤ q * b * (k + 2) := Nat.mul_le_mul_right _ ih
        have a2 : c * b * p ≤ a * (k + 2) * p := Nat.mul_le_mul_right p (Nat.le_of_lt hc)
        grind
      · exact ih
    · have hp : p = k + 2 := by omega
      subst hp
      have hq : (n * (k + 2) + d - 1) / d ≤ q := up_le hd h
      generalize (n * (k + 2) + d - 1) / d = c at *
      split
      · exact Nat.mul_le_mul_right _ hq
      · rename_i hc
        exact Nat.le_trans (Nat.le_of_not_lt hc) (Nat.mul_le_mul_right _ hq)

theorem highS_min (n d : Nat) (hd : 1 ≤ d) : ∀ k p q, 1 ≤ p → p ≤ k + 1 → q * (highS n d k).2 = (highS n d k).1 * p → (highS n d k).2 ≤ p
  | 0, p, q, h1, h2, h => by simp only [highS]; exact h1
  | k + 1, p, q, h1, h2, h => by
    have ih := highS_min n d hd k p q h1
    have hl := highS_le n d hd k
    have hb := highS_best n d hd k p q h1
    rw [highS] at h ⊢
    have hcd : n * (k + 2) ≤ (n * (k + 2) + d - 1) / d * d := up_ok hd
    generalize (n * (k + 2) + d - 1) / d = c at *
    generalize highS n d k = L at *
    obtain ⟨a, b⟩ := L
    simp only at hl ih hb h ⊢
    by_cases hp : p ≤ k + 1
    · by_cases hc : c * b < a * (k + 2)
      · rw [if_pos hc] at h ⊢
        simp only at h ⊢
        exfalso
        have hq : n * p ≤ q * d := by
          refine Nat.le_of_mul_le_mul_right (c := k + 2) ?_ (by omega)
          have a1 : n * (k + 2) * p ≤ c * d * p := Nat.mul_le_mul_right p hcd
          have a2 : q * (k + 2) * d = c * p * d := by rw [h]
          grind
        have hb := hb hp hq
        have a1 : a * p * (k + 2) ≤ q * b * (k + 2) := Nat.mul_le_mul_right _ hb
        have a2 : c * b * p < a * (k + 2) * p := Nat.mul_lt_mul_of_pos_right hc (by omega)
        have a3 : q * (k + 2) * b = c * p * b := by rw [h]
        grind
      · rw [if_neg hc] at h ⊢
        exact ih hp h
    · split
      · simp only; omega
      · simp only; omega
end Go.Abs.Seat

/-! Plain numbers: both neighbors are a proof; the best one of them is at least as near as any other. -/
namespace Go.Abs.Seat

/-- Both neighbors of n / d, denominators up to m. -/
structure Near (n d m a b c e : Nat) : Prop where
  d1 : 1 ≤ d
  b1 : 1 ≤ b
  bm : b ≤ m
  e1 : 1 ≤ e
  em : e ≤ m
  lo : a * d ≤ n * b
  hi : n * e ≤ c * d
  lb : ∀ p q, 1 ≤ p → p ≤ m → q * d ≤ n * p → q * b ≤ a * p
  lm : ∀ p q, 1 ≤ p → p ≤ m → q * b = a * p → b ≤ p
  hb : ∀ p q, 1 ≤ p → p ≤ m → n * p ≤ q * d → c * p ≤ q * e
  hm : ∀ p q, 1 ≤ p → p ≤ m → q * e = c * p → e ≤ p

theorem near_of (n d m : Nat) (hd : 1 ≤ d) (hm : 1 ≤ m) : Near n d m (lowS n d (m - 1)).1 (lowS n d (m - 1)).2 (highS n d (m - 1)).1 (highS n d (m - 1)).2 := by
  have h1 := lowS_le n d hd (m - 1)
  have h2 := highS_le n d hd (m - 1)
  have e : m - 1 + 1 = m := by omega
  rw [e] at h1 h2
  exact ⟨hd, h1.1, h1.2.1, h2.1, h2.2.1, lowS_ok n d _, highS_ok n d hd _, fun p q k1 k2 => lowS_best n d hd (m - 1) p q k1 (by omega), fun p q k1 k2 => lowS_min n d hd (m - 1) p q k1 (by omega),
    fun p q k1 k2 => highS_best n d hd (m - 1) p q k1 (by omega), fun p q k1 k2 => highS_min n d hd (m - 1) p q k1 (by omega)⟩

theorem bez : ∀ (s a b : Nat), a ≤ s → Nat.gcd a b = 1 → 1 ≤ b → ∃ x y, b * x = a * y + 1
  | 0, a, b, h, g, _ => by
    have ha : a = 0 := by omega
    subst ha
    rw [Nat.gcd_zero_left] at g
    exact ⟨1, 0, by omega⟩
  | s + 1, a, b, h, g, hb => by
    by_cases ha : a = 0
    · subst ha
      rw [Nat.gcd_zero_left] at g
      exact ⟨1, 0, by omega⟩
    have hr : b % a < a := Nat.mod_lt _ (by omega)
    have hdm : a * (b / a) + b % a = b := Nat.div_add_mod b a
    have g2 : Nat.gcd (b % a) a = 1 := by rw [← Nat.gcd_rec]; exact g
    obtain ⟨x, y, e⟩ := bez s (b % a) a (by omega) g2 (by omega)
    generalize b / a = q at *
    generalize b % a = r at *
    have e2 : a * (x + q * y) = b * y + 1 := by grind
    generalize x + q * y = X at *
    refine ⟨a * (X + y + 1) - y, b * (X + y + 1) - X, ?_⟩
    have k1 : y ≤ a * (X + y + 1) := by
      have : X + y + 1 ≤ a * (X + y + 1) := Nat.le_mul_of_pos_left _ (by omega)
      omega
    have k2 : X ≤ b * (X + y + 1) := by
      have : X + y + 1 ≤ b * (X + y + 1) := Nat.le_mul_of_pos_left _ (by omega)
      omega
    have k3 : b * y ≤ b * (a * (X + y + 1)) := Nat.mul_le_mul_left b k1
    have k4 : a * X ≤ a * (b * (X + y + 1)) := Nat.mul_le_mul_left a k2
    rw [Nat.mul_sub, Nat.mul_sub]
    have k5 : b * (a * (X + y + 1)) = a * (b * (X + y + 1)) := Nat.mul_left_comm _ _ _
    omega

theorem bez_win {a b m : Nat} (g : Nat.gcd a b = 1) (hb : 1 ≤ b) (hbm : b ≤ m) : ∃ x y, b * x = a * y + 1 ∧ 1 ≤ y ∧ y ≤ m ∧ m < y + b := by
  obtain ⟨x0, y0, e⟩ := bez a a b (Nat.le_refl _) g hb
  have hr : y0 % b < b := Nat.mod_lt _ (by omega)
  have h0 : b * (y0 / b) + y0 % b = y0 := Nat.div_add_mod y0 b
  have h1 : b * ((m - y0 % b) / b) + (m - y0 % b) % b = m - y0 % b := Nat.div_add_mod _ _
  have h2 : (m - y0 % b) % b < b := Nat.mod_lt _ (by omega)
  generalize y0 % b = r at *
  generalize y0 / b = k at *
  generalize (m - r) % b = s at *
  generalize (m - r) / b = t at *
  have hx : a * k ≤ x0 := by
    refine Nat.le_of_mul_le_mul_left (c := b) ?_ hb
    have : a * (b * k) ≤ a * y0 := Nat.mul_le_mul_left a (by omega)
    have q : b * (a * k) = a * (b * k) := Nat.mul_left_comm _ _ _
    omega
  refine ⟨x0 - a * k + a * t, r + b * t, ?_, by omega, by omega, by omega⟩
  have q1 : b * (x0 - a * k) = b * x0 - b * (a * k) := Nat.mul_sub _ _ _
  have q2 : b * (a * k) ≤ b * x0 := Nat.mul_le_mul_left b hx
  have q3 : a * y0 = a * (b * k) + a * r := by rw [← h0, Nat.mul_add]
  have q4 : b * (a * k) = a * (b * k) := Nat.mul_left_comm _ _ _
  have q5 : b * (a * t) = a * (b * t) := Nat.mul_left_comm _ _ _
  rw [Nat.mul_add, Nat.mul_add]
  omega

theorem gcd1_of_min {a b m : Nat} (hb : 1 ≤ b) (hbm : b ≤ m) (h : ∀ p q, 1 ≤ p → p ≤ m → q * b = a * p → b ≤ p) : Nat.gcd a b = 1 := by
  obtain ⟨x, hx⟩ := Nat.gcd_dvd_left a b
  obtain ⟨y, hy⟩ := Nat.gcd_dvd_right a b
  have hg : 1 ≤ Nat.gcd a b := gcd_pos_r hb
  generalize Nat.gcd a b = g at *
  have hy1 : 1 ≤ y := by
    cases y with
    | zero => omega
    | succ y => omega
  have hyb : y ≤ b := by rw [hy]; exact Nat.le_mul_of_pos_left _ (by omega)
  have := h y x hy1 (by omega) (by grind)
  rw [hy] at this
  have h2 : g * y ≤ 1 * y := by omega
  have := Nat.le_of_mul_le_mul_right h2 (by omega)
  omega

theorem Near.prv {n d m a b c e : Nat} (N : Near n d m a b c e) : prv n d m a b c e := by
  have hb := N.b1
  have he := N.e1
  have hd := N.d1
  have lo := N.lo
  have hi := N.hi
  have bm := N.bm
  have em := N.em
  have g1 : Nat.gcd a b = 1 := gcd1_of_min N.b1 N.bm N.lm
  have g2 : Nat.gcd c e = 1 := gcd1_of_min N.e1 N.em N.hm
  refine ⟨⟨g1, N.bm⟩, ⟨g2, N.em⟩, ?_⟩
  by_cases h : a * d = n * b
  · left
    refine ⟨h, ?_⟩
    have k := N.hb b a N.b1 N.bm (by omega)
    have k2 : c * b * d ≤ a * e * d := Nat.mul_le_mul_right d k
    have k3 : a * d * e = n * b * e := by rw [h]
    have k4 : c * d * b ≤ n * e * b := by grind
    have := Nat.le_of_mul_le_mul_right k4 hb
    omega
  · right
    have s1 : a * d < n * b := by omega
    have s2 : n * e < c * d := by
      apply Nat.lt_of_le_of_ne hi
      intro h2
      have k := N.lb e c N.e1 N.em (by omega)
      have k2 : c * b * d ≤ a * e * d := Nat.mul_le_mul_right d k
      have k3 : n * e * b = c * d * b := by rw [h2]
      have k4 : n * b * e ≤ a * d * e := by grind
      have := Nat.le_of_mul_le_mul_right k4 he
      omega
    have s3 : a * e < c * b := by
      apply Nat.lt_of_mul_lt_mul_right (a := d)
      have k1 : a * d * e < n * b * e := Nat.mul_lt_mul_of_pos_right s1 he
      have k2 : n * e * b < c * d * b := Nat.mul_lt_mul_of_pos_right s2 hb
      grind
    have s4 : m < b + e := by
      apply Nat.lt_of_not_le
      intro hle
      by_cases k : (a + c) * d ≤ n * (b + e)
      · have := N.lb (b + e) (a + c) (by omega) hle k
        grind
      · have := N.hb (b + e) (a + c) (by omega) hle (by omega)
        grind
    refine ⟨s1, s2, ?_, s4⟩
    obtain ⟨x, y, e1, y1, y2, y3⟩ := bez_win g1 hb bm
    have k1 : ¬ x * d ≤ n * y := by
      intro k
      have := N.lb y x y1 y2 k
      grind
    have k2 := N.hb y x y1 y2 (by omega)
    have k3 : c * y = x * e := by
      apply Nat.le_antisymm k2
      apply Nat.le_of_not_lt
      intro k
      have q1 : b * (c * y + 1) ≤ b * (x * e) := Nat.mul_le_mul_left b k
      have q2 : (a * e + 1) * y ≤ c * b * y := Nat.mul_le_mul_right y s3
      have q3 : b * x * e = (a * y + 1) * e := by rw [e1]
      grind
    have k4 := N.hm y x y1 y2 k3.symm
    obtain ⟨t, ht⟩ : ∃ t, c * b = a * e + t := ⟨c * b - a * e, by omega⟩
    have k5 : t * y = e := by
      have q1 : c * b * y = (a * e + t) * y := by rw [ht]
      have q3 : b * x * e = (a * y + 1) * e := by rw [e1]
      have q4 : c * y * b = x * e * b := by rw [k3]
      grind
    have k6 : t * y ≤ 1 * y := by omega
    have := Nat.le_of_mul_le_mul_right k6 (by omega)
    omega

theorem Near.between {n d m a b c e : Nat} (N : Near n d m a b c e) {p q : Nat} (h1 : 1 ≤ p) (h2 : p ≤ m) : ¬ (a * p < q * b ∧ q * e < c * p) := by
  rintro ⟨k1, k2⟩
  by_cases k : q * d ≤ n * p
  · have := N.lb p q h1 h2 k
    omega
  · have := N.hb p q h1 h2 (by omega)
    omega

theorem Near.best_lo {n d m a b c e : Nat} (N : Near n d m a b c e) {p q : Nat} (h1 : 1 ≤ p) (h2 : p ≤ m)
    (hn : (n * b - a * d) * e < (c * d - n * e) * b ∨ ((n * b - a * d) * e = (c * d - n * e) * b ∧ b ≤ e)) :
    gapN (a * d) (n * b) * p ≤ gapN (q * d) (n * p) * b ∧ (gapN (a * d) (n * b) * p < gapN (q * d) (n * p) * b ∨ b ≤ p) := by
  have hb := N.b1
  have he := N.e1
  have hd := N.d1
  obtain ⟨U, hU⟩ : ∃ U, n * b = a * d + U := ⟨n * b - a * d, by have := N.lo; omega⟩
  obtain ⟨V, hV⟩ : ∃ V, c * d = n * e + V := ⟨c * d - n * e, by have := N.hi; omega⟩
  rw [show n * b - a * d = U by omega, show c * d - n * e = V by omega] at hn
  rw [show gapN (a * d) (n * b) = U by unfold gapN; omega]
  by_cases k : q * d ≤ n * p
  · obtain ⟨O, hO⟩ : ∃ O, n * p = q * d + O := ⟨n * p - q * d, by omega⟩
    rw [show gapN (q * d) (n * p) = O by unfold gapN; omega]
    have l := N.lb p q h1 h2 k
    have l2 : q * b * d ≤ a * p * d := Nat.mul_le_mul_right d l
    have e1 : n * b * p = (a * d + U) * p := by rw [hU]
    have e2 : n * p * b = (q * d + O) * b := by rw [hO]
    have r : U * p ≤ O * b := by grind
    refine ⟨r, ?_⟩
    by_cases eq : U * p = O * b
    · right
      refine N.lm p q h1 h2 (Nat.eq_of_mul_eq_mul_right (show 0 < d by omega) ?_)
      grind
    · left; omega
  · obtain ⟨O, hO⟩ : ∃ O, q * d = n * p + O := ⟨q * d - n * p, by omega⟩
    rw [show gapN (q * d) (n * p) = O by unfold gapN; omega]
    have l := N.hb p q h1 h2 (by omega)
    have l2 : c * p * d ≤ q * e * d := Nat.mul_le_mul_right d l
    have e1 : c * d * p = (n * e + V) * p := by rw [hV]
    have e2 : q * d * e = (n * p + O) * e := by rw [hO]
    have r0 : V * p ≤ O * e := by grind
    have r1 : V * p * b ≤ O * e * b := Nat.mul_le_mul_right b r0
    have r2 : U * e * p ≤ V * b * p := Nat.mul_le_mul_right p (by omega)
    have r : U * p ≤ O * b := by
      refine Nat.le_of_mul_le_mul_right (c := e) ?_ he
      grind
    refine ⟨r, ?_⟩
    by_cases eq : U * p = O * b
    · right
      have q1 : U * p * e = O * b * e := by rw [eq]
      have q2 : U * e = V * b := by
        apply Nat.le_antisymm (by omega)
        refine Nat.le_of_mul_le_mul_right (c := p) ?_ h1
        grind
      have q3 : b ≤ e := by omega
      have q4 : V * p = O * e := by
        refine Nat.eq_of_mul_eq_mul_right hb ?_
        grind
      have : e ≤ p := by
        refine N.hm p q h1 h2 (Nat.eq_of_mul_eq_mul_right (show 0 < d by omega) ?_)
        grind
      omega
    · left; omega

theorem Near.best_hi {n d m a b c e : Nat} (N : Near n d m a b c e) {p q : Nat} (h1 : 1 ≤ p) (h2 : p ≤ m)
    (hn : ¬ ((n * b - a * d) * e < (c * d - n * e) * b ∨ ((n * b - a * d) * e = (c * d - n * e) * b ∧ b ≤ e))) :
    gapN (c * d) (n * e) * p ≤ gapN (q * d) (n * p) * e ∧ (gapN (c * d) (n * e) * p < gapN (q * d) (n * p) * e ∨ e ≤ p) := by
  have hb := N.b1
  have he := N.e1
  have hd := N.d1
  obtain ⟨U, hU⟩ : ∃ U, n * b = a * d + U := ⟨n * b - a * d, by have := N.lo; omega⟩
  obtain ⟨V, hV⟩ : ∃ V, c * d = n * e + V := ⟨c * d - n * e, by have := N.hi; omega⟩
  rw [show n * b - a * d = U by omega, show c * d - n * e = V by omega] at hn
  rw [show gapN (c * d) (n * e) = V by unfold gapN; omega]
  have hle : V * b ≤ U * e := by omega
  by_cases k : q * d ≤ n * p
  · obtain ⟨O, hO⟩ : ∃ O, n * p = q * d + O := ⟨n * p - q * d, by omega⟩
    rw [show gapN (q * d) (n * p) = O by unfold gapN; omega]
    have l := N.lb p q h1 h2 k
    have l2 : q * b * d ≤ a * p * d := Nat.mul_le_mul_right d l
    have e1 : n * b * p = (a * d + U) * p := by rw [hU]
    have e2 : n * p * b = (q * d + O) * b := by rw [hO]
    have r0 : U * p ≤ O * b := by grind
    have r1 : U * p * e ≤ O * b * e := Nat.mul_le_mul_right e r0
    have r2 : V * b * p ≤ U * e * p := Nat.mul_le_mul_right p hle
    have r : V * p ≤ O * e := by
      refine Nat.le_of_mul_le_mul_right (c := b) ?_ hb
      grind
    refine ⟨r, ?_⟩
    by_cases eq : V * p = O * e
    · right
      have q1 : V * p * b = O * e * b := by rw [eq]
      have q2 : U * e = V * b := by
        apply Nat.le_antisymm _ hle
        refine Nat.le_of_mul_le_mul_right (c := p) ?_ h1
        grind
      have q3 : e < b := by omega
      have q4 : U * p = O * b := by
        refine Nat.eq_of_mul_eq_mul_right he ?_
        grind
      have : b ≤ p := by
        refine N.lm p q h1 h2 (Nat.eq_of_mul_eq_mul_right (show 0 < d by omega) ?_)
        grind
      omega
    · left; omega
  · obtain ⟨O, hO⟩ : ∃ O, q * d = n * p + O := ⟨q * d - n * p, by omega⟩
    rw [show gapN (q * d) (n * p) = O by unfold gapN; omega]
    have l := N.hb p q h1 h2 (by omega)
    have l2 : c * p * d ≤ q * e * d := Nat.mul_le_mul_right d l
    have e1 : c * d * p = (n * e + V) * p := by rw [hV]
    have e2 : q * d * e = (n * p + O) * e := by rw [hO]
    have r : V * p ≤ O * e := by grind
    refine ⟨r, ?_⟩
    by_cases eq : V * p = O * e
    · right
      refine N.hm p q h1 h2 (Nat.eq_of_mul_eq_mul_right (show 0 < d by omega) ?_)
      grind
    · left; omega
end Go.Abs.Seat
