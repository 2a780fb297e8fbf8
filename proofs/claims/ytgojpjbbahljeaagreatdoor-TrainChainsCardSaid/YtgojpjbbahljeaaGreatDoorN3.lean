/-
  Plain numbers: the fraction of a chain's beginning is the best one with its denominator.
-/
import Derived.Test.YtgojpjbbahljeaaGreatDoorT21
import Derived.Test.YtgojpjbbahljeaaGreatDoorL3
/-! Plain numbers: the fraction of a chain's beginning is the best one with its denominator. -/
namespace Go.Abs.Seat

/-- Both last fractions of a chain: what it does to the fraction of what follows. -/
structure M4 where
  a : Nat
  b : Nat
  c : Nat
  d : Nat
def mat : List Nat → M4
  | [] => ⟨1, 0, 0, 1⟩
  | x :: r => ⟨x * (mat r).a + (mat r).c, x * (mat r).b + (mat r).d, (mat r).a, (mat r).b⟩

theorem foS_app : ∀ (r t : List Nat), foS (r ++ t) = ((mat r).a * (foS t).1 + (mat r).b * (foS t).2, (mat r).c * (foS t).1 + (mat r).d * (foS t).2)
  | [], t => by simp [mat]
  | x :: r, t => by
    rw [List.cons_append, foS, foS_app r t]
    simp only [mat, Prod.mk.injEq, and_true]
    grind
theorem foS_mat (r : List Nat) : foS r = ((mat r).a, (mat r).c) := by
  have := foS_app r []
  rw [List.append_nil] at this
  rw [this]
  simp [foS]
theorem mat_det : ∀ r : List Nat, ((mat r).a : Int) * (mat r).d - (mat r).b * (mat r).c = 1 ∨ ((mat r).a : Int) * (mat r).d - (mat r).b * (mat r).c = -1
  | [] => .inl rfl
  | x :: r => by
    have h := mat_det r
    simp only [mat, Int.natCast_add, Int.natCast_mul]
    rcases h with h | h
    · right; grind
    · left; grind
theorem mat_b : ∀ r : List Nat, r ≠ [] → (∀ y, y ∈ r → 1 ≤ y) → 1 ≤ (mat r).b
  | [], h, _ => absurd rfl h
  | [x], _, _ => by simp [mat]
  | x :: y :: r, _, h => by
    have h1 := mat_b (y :: r) (by simp) fun z hz => h z (by simp [hz])
    have h2 : 1 ≤ x * (mat (y :: r)).b := Nat.mul_pos (h x (by simp)) h1
    show 1 ≤ x * (mat (y :: r)).b + (mat (y :: r)).d
    omega

theorem gap_int (u v : Nat) : ((gapN u v : Nat) : Int) = if (u : Int) ≤ v then (v : Int) - u else (u : Int) - v := by
  unfold gapN
  split <;> omega

/-- No other fraction with such a denominator is as near. -/
theorem conv_near {P P' Q Q' n d p q : Int} (e : P * Q' - P' * Q = 1 ∨ P * Q' - P' * Q = -1) (hQ : 1 ≤ Q) (hQ' : 1 ≤ Q') (hn : d < n) (hd : 0 ≤ d) (hq : 1 ≤ q) (hqQ : q ≤ Q) (hne : p * Q ≠ P * q) :
    d < (P * n + P' * d) * q - p * (Q * n + Q' * d) ∨ d < p * (Q * n + Q' * d) - (P * n + P' * d) * q := by
  have key : ∀ (s : Int), P * Q' - P' * Q = s → (s = 1 ∨ s = -1) → d < (P * n + P' * d) * q - p * (Q * n + Q' * d) ∨ d < p * (Q * n + Q' * d) - (P * n + P' * d) * q := by
    intro s hs h1
    have hb : (p * Q' - P' * q) * Q = (p * Q - P * q) * Q' + q * s := by rw [← hs]; grind
    have hx : p * (Q * n + Q' * d) - (P * n + P' * d) * q = (p * Q - P * q) * n + (p * Q' - P' * q) * d := by grind
    have hx2 : (P * n + P' * d) * q - p * (Q * n + Q' * d) = -((p * Q - P * q) * n + (p * Q' - P' * q) * d) := by grind
    rw [hx, hx2]
    have ha : p * Q - P * q ≠ 0 := fun k => hne (by omega)
    generalize p * Q - P * q = a at *
    generalize p * Q' - P' * q = b at *
    -- s a and s b
    have hb2 : (s * b) * Q = (s * a) * Q' + q := by
      have : s * s = 1 := by rcases h1 with rfl | rfl <;> rfl
      grind
    have h3 : s * (a * n + b * d) = (s * a) * n + (s * b) * d := by grind
    have hsa : s * a ≠ 0 := by
      rcases h1 with rfl | rfl <;> omega
    have goal : d < s * (a * n + b * d) ∨ d < -(s * (a * n + b * d)) := by
      rw [h3]
      generalize s * a = A at *
      generalize s * b = B at *
      by_cases hA : 1 ≤ A
      · left
        have k1 : 1 * Q' ≤ A * Q' := Int.mul_le_mul_of_nonneg_right hA (by omega)
        have hB : 0 < B := by
          refine Int.lt_of_mul_lt_mul_right (a := Q) ?_ (by omega)
          rw [hb2, Int.zero_mul]; omega
        have k2 : 1 * n ≤ A * n := Int.mul_le_mul_of_nonneg_right hA (by omega)
        have k3 : 1 * d ≤ B * d := Int.mul_le_mul_of_nonneg_right hB hd
        omega
      · right
        have hA' : A ≤ -1 := by omega
        have k1 : A * Q' ≤ -1 * Q' := Int.mul_le_mul_of_nonneg_right hA' (by omega)
        have hB : B < 1 := by
          refine Int.lt_of_mul_lt_mul_right (a := Q) ?_ (by omega)
          rw [hb2, Int.one_mul]; omega
        have k2 : A * n ≤ -1 * n := Int.mul_le_mul_of_nonneg_right hA' (by omega)
        have k3 : B * d ≤ 0 * d := Int.mul_le_mul_of_nonneg_right (by omega) hd
        omega
    rcases h1 with rfl | rfl
    · rw [Int.one_mul] at goal
      rcases goal with g | g
      · exact .inr g
      · exact .inl g
    · rcases goal with g | g
      · left; omega
      · right; omega
  rcases e with e | e
  · exact key 1 e (.inl rfl)
  · exact key (-1) e (.inr rfl)

theorem mat_gcd (r : List Nat) : Nat.gcd (mat r).a (mat r).c = 1 := by
  have h := mat_det r
  have h1 : Nat.gcd (mat r).a (mat r).c ∣ (mat r).a * (mat r).d := Nat.dvd_trans (Nat.gcd_dvd_left _ _) (Nat.dvd_mul_right _ _)
  have h2 : Nat.gcd (mat r).a (mat r).c ∣ (mat r).b * (mat r).c := Nat.dvd_trans (Nat.gcd_dvd_right _ _) (Nat.dvd_mul_left _ _)
  rw [← Int.natCast_mul, ← Int.natCast_mul] at h
  refine Nat.dvd_one.1 ?_
  rcases h with h | h
  · have := Nat.dvd_sub h1 h2
    rwa [show (mat r).a * (mat r).d - (mat r).b * (mat r).c = 1 by omega] at this
  · have := Nat.dvd_sub h2 h1
    rwa [show (mat r).b * (mat r).c - (mat r).a * (mat r).d = 1 by omega] at this

/-- A list that may follow in a chain. -/
def okTail (t : List Nat) : Prop := (∀ y, y ∈ t → 1 ≤ y) ∧ (t ≠ [] → lastNe t)
theorem okTail.lt {t : List Nat} (h : okTail t) : (foS t).2 < (foS t).1 := by
  cases t with
  | nil => decide
  | cons y t => exact foS_lt y t h.1 (h.2 (by simp))

theorem best_conv (x : Nat) (r t : List Nat) (hr : r ≠ []) (h1 : ∀ y, y ∈ r → 1 ≤ y) (ht : okTail t) {n d g : Nat} (hg : 1 ≤ g) (en : n = g * (foS (x :: r ++ t)).1) (ed : d = g * (foS (x :: r ++ t)).2) :
    bestS n d ((foS (x :: r)).2 - 1) = foS (x :: r) := by
  have hap := foS_app (x :: r) t
  have hma := foS_mat (x :: r)
  have hdt := mat_det (x :: r)
  have hgc := mat_gcd (x :: r)
  have hlt := ht.lt
  have hQ : 1 ≤ (mat (x :: r)).c := by
    have := foS_pos2 r h1
    rw [foS_mat] at this
    exact this
  have hQ' : 1 ≤ (mat (x :: r)).d := mat_b r hr h1
  have hY : 1 ≤ (foS (x :: r ++ t)).2 := by
    rw [hap]
    have : 1 ≤ (mat (x :: r)).c * (foS t).1 := Nat.mul_pos hQ (by omega)
    simp only
    omega
  rw [hap] at en ed hY
  rw [hma]
  generalize mat (x :: r) = m at *
  obtain ⟨P, P', Q, Q'⟩ := m
  generalize (foS t).1 = N at *
  generalize (foS t).2 = D at *
  dsimp only at *
  generalize hX : P * N + P' * D = X at *
  generalize hYY : Q * N + Q' * D = Y at *
  have hd : 1 ≤ d := by rw [ed]; exact Nat.mul_pos hg hY
  have NN := near_of n d Q hd hQ
  -- whichever is the best one
  have fin : ∀ z1 z2 : Nat, 1 ≤ z2 → z2 ≤ Q → Nat.gcd z1 z2 = 1 → gapN (z1 * d) (n * z2) * Q ≤ gapN (P * d) (n * Q) * z2 → (z1, z2) = (P, Q) := by
    intro z1 z2 a1 a2 a3 a4
    by_cases hne : z1 * Q = P * z2
    · have := low_unique a1 hQ a3 hgc hne
      rw [this.1, this.2]
    · exfalso
      have e1 : gapN (z1 * d) (n * z2) = gapN (z1 * Y) (X * z2) * g := by rw [← gapN_mul, ed, en]; congr 1 <;> grind
      have e2 : gapN (P * d) (n * Q) = gapN (P * Y) (X * Q) * g := by rw [← gapN_mul, ed, en]; congr 1 <;> grind
      rw [e1, e2] at a4
      have a5 : gapN (z1 * Y) (X * z2) * Q ≤ gapN (P * Y) (X * Q) * z2 := by
        refine Nat.le_of_mul_le_mul_right (c := g) ?_ hg
        calc gapN (z1 * Y) (X * z2) * Q * g = gapN (z1 * Y) (X * z2) * g * Q := Nat.mul_right_comm _ _ _
          _ ≤ gapN (P * Y) (X * Q) * g * z2 := a4
          _ = gapN (P * Y) (X * Q) * z2 * g := Nat.mul_right_comm _ _ _
      have e3 : gapN (P * Y) (X * Q) = D := by
        have hh : (X : Int) * Q - P * Y = D ∨ (X : Int) * Q - P * Y = -D := by
          rw [← hX, ← hYY]
          simp only [Int.natCast_add, Int.natCast_mul]
          rcases hdt with k | k
          · right; grind
          · left; grind
        rw [← Int.natCast_mul, ← Int.natCast_mul] at hh
        unfold gapN
        omega
      have k := conv_near (P := P) (P' := P') (Q := Q) (Q' := Q') (n := N) (d := D) (p := z1) (q := z2) hdt (by omega) (by omega) (by omega) (by omega) (by omega) (by omega) (by
        intro q
        apply hne
        have : ((z1 * Q : Nat) : Int) = ((P * z2 : Nat) : Int) := by simp only [Int.natCast_mul]; exact q
        omega)
      have e4 : D < gapN (z1 * Y) (X * z2) := by
        have q1 : ((P : Int) * N + P' * D) = (X : Int) := by rw [← hX]; simp only [Int.natCast_add, Int.natCast_mul]
        have q2 : ((Q : Int) * N + Q' * D) = (Y : Int) := by rw [← hYY]; simp only [Int.natCast_add, Int.natCast_mul]
        rw [q1, q2, ← Int.natCast_mul, ← Int.natCast_mul] at k
        unfold gapN
        omega
      rw [e3] at a5
      have a6 : D * z2 ≤ D * Q := Nat.mul_le_mul_left D a2
      have a7 : D * Q < gapN (z1 * Y) (X * z2) * Q := Nat.mul_lt_mul_of_pos_right e4 hQ
      omega
  have eb : bestS n d (Q - 1) = if nearS n d (lowS n d (Q - 1)) (highS n d (Q - 1)) then lowS n d (Q - 1) else highS n d (Q - 1) := rfl
  rw [eb]
  generalize lowS n d (Q - 1) = L at *
  generalize highS n d (Q - 1) = H at *
  obtain ⟨a, b⟩ := L
  obtain ⟨c, e⟩ := H
  have pr := NN.prv
  by_cases hn2 : nearS n d (a, b) (c, e)
  · rw [if_pos hn2]
    exact fin a b NN.b1 NN.bm pr.1.1 (NN.best_lo (q := P) hQ (Nat.le_refl _) hn2).1
  · rw [if_neg hn2]
    exact fin c e NN.e1 NN.em pr.2.1.1 (NN.best_hi (q := P) hQ (Nat.le_refl _) hn2).1
end Go.Abs.Seat
