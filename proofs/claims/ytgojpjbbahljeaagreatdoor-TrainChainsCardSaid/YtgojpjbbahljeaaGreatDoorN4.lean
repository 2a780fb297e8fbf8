/-
  Plain numbers: what a fraction's chain is like.
-/
import Derived.Test.YtgojpjbbahljeaaGreatDoorN3
/-! Plain numbers: what a fraction's chain is like. -/
namespace Go.Abs.Seat

theorem ech_foS : ∀ (d n : Nat), 1 ≤ d → foS (ech (d + 1) n d) = (n / Nat.gcd n d, d / Nat.gcd n d) := by
  intro d
  induction d using Nat.strongRecOn with
  | ind d ih =>
    intro n hd
    have hr := Nat.mod_lt n hd
    have hdm := Nat.div_add_mod n d
    rw [ech_step hd, foS]
    by_cases h : n % d = 0
    · rw [h, ech_zero]
      have hg : Nat.gcd n d = d := Nat.gcd_eq_right (Nat.dvd_of_mod_eq_zero h)
      rw [hg, Nat.div_self (by omega)]
      simp [foS]
    · rw [ih (n % d) hr d (by omega)]
      have hg : Nat.gcd d (n % d) = Nat.gcd n d := by rw [Nat.gcd_comm n d, Nat.gcd_rec d n, Nat.gcd_comm]
      rw [hg]
      have h1 := Nat.gcd_dvd_right n d
      have h2 : Nat.gcd n d ∣ n % d := by rw [← hg]; exact Nat.gcd_dvd_right _ _
      have hp : 1 ≤ Nat.gcd n d := gcd_pos_r hd
      generalize Nat.gcd n d = g at *
      obtain ⟨y, hy⟩ := h1
      obtain ⟨z, hz⟩ := h2
      have e1 : d / g = y := by rw [hy]; exact Nat.mul_div_cancel_left y hp
      have e2 : n % d / g = z := by rw [hz]; exact Nat.mul_div_cancel_left z hp
      have e3 : n / g = n / d * y + z := by
        have : n = g * (n / d * y + z) := by
          rw [hz] at hdm
          generalize n / d = q at *
          rw [← hdm, hy]
          grind
        have h3 := Nat.mul_div_cancel_left (n / d * y + z) hp
        rw [← this] at h3
        exact h3
      simp only [e1, e2, e3]

theorem ech_pos : ∀ (r d : Nat), r < d → ∀ y, y ∈ ech (r + 1) d r → 1 ≤ y := by
  intro r
  induction r using Nat.strongRecOn with
  | ind r ih =>
    intro d h y hy
    by_cases h0 : 1 ≤ r
    · rw [ech_step h0] at hy
      rcases List.mem_cons.1 hy with e | hy
      · rw [e]; exact Nat.div_pos (by omega) h0
      · exact ih (d % r) (Nat.mod_lt d h0) r (Nat.mod_lt d h0) y hy
    · have : r = 0 := by omega
      subst this
      rw [ech_zero] at hy
      cases hy

theorem ech_last : ∀ (r d : Nat), r < d → ech (r + 1) d r ≠ [] → lastNe (ech (r + 1) d r) := by
  intro r
  induction r using Nat.strongRecOn with
  | ind r ih =>
    intro d h hne
    by_cases h0 : 1 ≤ r
    · have hr := Nat.mod_lt d h0
      rw [ech_step h0]
      by_cases h1 : d % r = 0
      · rw [h1, ech_zero]
        show d / r ≠ 1
        intro e
        have := Nat.div_add_mod d r
        rw [e, h1] at this
        omega
      · have h2 := ih (d % r) hr r hr (by rw [ech_step (by omega)]; simp)
        rw [ech_step (n := r) (d := d % r) (by omega)] at h2 ⊢
        exact h2
    · have : r = 0 := by omega
      subst this
      rw [ech_zero] at hne
      exact absurd rfl hne

theorem ech_le : ∀ (d n : Nat), n ≤ 50000 → d ≤ 50000 → ∀ y, y ∈ ech (d + 1) n d → y ≤ 50000 := by
  intro d
  induction d using Nat.strongRecOn with
  | ind d ih =>
    intro n hn hd y hy
    by_cases h0 : 1 ≤ d
    · have hr := Nat.mod_lt n h0
      rw [ech_step h0] at hy
      rcases List.mem_cons.1 hy with e | hy
      · rw [e]; exact Nat.le_trans (Nat.div_le_self _ _) hn
      · exact ih (n % d) hr d hd (by omega) y hy
    · have : d = 0 := by omega
      subst this
      rw [ech_zero] at hy
      cases hy

theorem ech_foOk : ∀ (d n : Nat), n ≤ 50000 → d ≤ 50000 → foOk (ech (d + 1) n d) := by
  intro d
  induction d using Nat.strongRecOn with
  | ind d ih =>
    intro n hn hd i hi
    by_cases h0 : 1 ≤ d
    · have hr := Nat.mod_lt n h0
      cases i with
      | zero =>
        rw [List.drop_zero, ech_foS d n h0]
        exact Nat.le_trans (Nat.div_le_self _ _) hn
      | succ i =>
        rw [ech_step h0] at hi ⊢
        exact ih (n % d) hr d hd (by omega) i (by simpa using hi)
    · have : d = 0 := by omega
      subst this
      rw [ech_zero] at hi
      exact absurd hi (Nat.not_lt_zero _)

/-- The least number below a fraction whose chain is as long. -/
def fb : Nat → Nat
  | 0 => 1
  | 1 => 1
  | k + 2 => fb (k + 1) + fb k

theorem ech_fb : ∀ (L : Nat), 1 ≤ L → ∀ n d, 1 ≤ d → L ≤ (ech (d + 1) n d).length → fb L ≤ d
  | 0, h, _, _, _, _ => absurd h (by omega)
  | 1, _, _, d, hd, _ => hd
  | 2, _, n, d, hd, hl => by
    have hr := Nat.mod_lt n hd
    rw [ech_step hd, List.length_cons] at hl
    have : n % d ≠ 0 := by
      intro h
      rw [h, ech_zero] at hl
      simp at hl
    show 2 ≤ d
    omega
  | k + 3, _, n, d, hd, hl => by
    have hr := Nat.mod_lt n hd
    rw [ech_step hd, List.length_cons] at hl
    have h1 : 1 ≤ n % d := by
      cases h : n % d with
      | zero => rw [h, ech_zero] at hl; simp at hl
      | succ _ => omega
    have a1 := ech_fb (k + 2) (by omega) d (n % d) h1 (by omega)
    have hr2 := Nat.mod_lt d h1
    rw [ech_step h1, List.length_cons] at hl
    have h2 : 1 ≤ d % (n % d) := by
      cases h : d % (n % d) with
      | zero => rw [h, ech_zero] at hl; simp at hl
      | succ _ => omega
    have a2 := ech_fb (k + 1) (by omega) (n % d) (d % (n % d)) h2 (by omega)
    have h3 := Nat.div_add_mod d (n % d)
    have h4 : 1 ≤ d / (n % d) := Nat.div_pos (by omega) h1
    have h5 : (n % d) * 1 ≤ (n % d) * (d / (n % d)) := Nat.mul_le_mul_left _ h4
    show fb (k + 2) + fb (k + 1) ≤ d
    omega

theorem ech_len24 (n d : Nat) (h1 : 1 ≤ d) (h2 : d ≤ 50000) : 1 ≤ (ech (d + 1) n d).length ∧ (ech (d + 1) n d).length ≤ 24 := by
  constructor
  · rw [ech_step h1, List.length_cons]; omega
  · apply Nat.le_of_not_lt
    intro h
    have := ech_fb 24 (by omega) n d h1 (by omega)
    have e : fb 24 = 75025 := by decide
    omega

/-- A chain's beginning. -/
theorem take_foOk (l : List Nat) (i : Nat) (hi : i ≤ l.length) (hp : ∀ y, y ∈ l.drop i → 1 ≤ y) (ho : foOk l) : foOk (l.take i) := by
  intro j hj
  have hj' : j < i := by
    have := List.length_take (i := i) (l := l)
    omega
  have h := ho j (by omega)
  have e : l.drop j = (l.take i).drop j ++ l.drop i := by
    have h1 := List.take_append_drop i l
    have h2 : (l.take i ++ l.drop i).drop j = (l.take i).drop j ++ l.drop i := by
      rw [List.drop_append_of_le_length (by omega)]
    rw [h1] at h2
    exact h2
  rw [e, foS_app] at h
  rw [foS_mat]
  have h3 := foS_pos2 (l.drop i) hp
  have h4 : (mat ((l.take i).drop j)).a * 1 ≤ (mat ((l.take i).drop j)).a * (foS (l.drop i)).1 := Nat.mul_le_mul_left _ h3
  simp only at h ⊢
  omega
end Go.Abs.Seat
