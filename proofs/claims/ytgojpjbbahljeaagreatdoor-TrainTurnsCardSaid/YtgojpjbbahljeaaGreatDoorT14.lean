/-
  Trains, with what Again and whole tell.
-/
import Derived.Test.YtgojpjbbahljeaaGreatDoorT13
/-! Trains, with what Again and whole tell. -/
namespace Go.Abs.Seat
open Go Go.Abs Go.Proofs.Tryz
set_option maxRecDepth 100000
set_option maxHeartbeats 4000000
attribute [local irreducible] pEq

/-- After N turns all wheels of a train have made whole turns, and after no fewer. -/
structure AW (v : AV) (N : Nat) : Prop where
  pa : Pure prog 34 [v] (.tup [nv N, iv 0])
  pr : Pure prog 37 [v] (nv N)
  n1 : 1 ≤ N ∧ N ≤ 216000
  pw : ∀ t : Nat, t ≤ 216000 → ∀ b : Bool, (b = true ↔ N ∣ t) → Pure prog 38 [v, nv t] (.bool b)

theorem dvd_red {a b t : Nat} (hb : 1 ≤ b) : (t * a) % b = 0 ↔ b / Nat.gcd a b ∣ t := by
  have hr := red_gcd (n := a) hb
  obtain ⟨x, hx⟩ := Nat.gcd_dvd_left a b
  obtain ⟨y, hy⟩ := Nat.gcd_dvd_right a b
  have hg : 1 ≤ Nat.gcd a b := gcd_pos_r hb
  generalize Nat.gcd a b = g at *
  have e1 : a / g = x := by rw [hx]; exact Nat.mul_div_cancel_left x (by omega)
  have e2 : b / g = y := by rw [hy]; exact Nat.mul_div_cancel_left y (by omega)
  rw [e1, e2] at hr
  rw [e2, hx, hy, ← Nat.dvd_iff_mod_eq_zero, show t * (g * x) = g * (t * x) from Nat.mul_left_comm _ _ _]
  constructor
  · intro h
    have := Nat.dvd_of_mul_dvd_mul_left (by omega) h
    exact Nat.Coprime.dvd_of_dvd_mul_right (Nat.Coprime.symm hr.1) this
  · intro h
    exact Nat.mul_dvd_mul_left g (Nat.dvd_trans h (Nat.dvd_mul_right t x))

theorem lc_eq {o y : Nat} : o / Nat.gcd o y * y = Nat.lcm o y := by
  unfold Nat.lcm
  rw [Nat.div_mul_right_comm (Nat.gcd_dvd_left o y)]

theorem div_dvd (a b : Nat) : b / Nat.gcd a b ∣ b := Nat.div_dvd_of_dvd (Nat.gcd_dvd_right a b)

theorem aw1 (x0 y0 : Nat) (h0 : (1 ≤ x0 ∧ x0 ≤ 60) ∧ (1 ≤ y0 ∧ y0 ≤ 60)) (hT : Pure prog 77 [.lst [nv x0, nv y0] 1 .no] (.bool true)) : ∃ N, AW (.lst [nv x0, nv y0] 1 .no) N := by
  have u1 := turns1 x0 y0 h0
  have r1 := rTurns1 x0 y0 h0
  have d1 : 1 ≤ 1 * y0 ∧ 1 * y0 ≤ 60 := ⟨Nat.mul_pos (show 0 < 1 by omega) (by omega), Nat.le_trans (Nat.mul_le_mul (show 1 ≤ 1 by omega) h0.2.2) (by omega)⟩
  have v1 := fun t => dvd_red (a := 1 * x0) (t := t) d1.1
  have z1 := div_dvd (1 * x0) (1 * y0)
  have c1 : ∀ t : Nat, t * x0 = t * (1 * x0) := fun t => by simp only [Nat.one_mul]
  have w1 : 1 ≤ (1 * y0) / Nat.gcd (1 * x0) (1 * y0) := (red_gcd (n := 1 * x0) d1.1).2
  generalize hY1 : (1 * y0) / Nat.gcd (1 * x0) (1 * y0) = Y1 at *
  have L1 : Y1 ≤ 216000 := Nat.le_trans (Nat.le_of_dvd (by omega) z1) (by omega)
  have D1 : Y1 ∣ 1 * y0 := z1
  have q1 := gcd_pure 1 Y1 (by omega) (by omega)
  have q1r := rGcd_pure 1 Y1 (by omega) (by omega)
  rw [Nat.gcd_one_left] at q1 q1r
  refine ⟨Y1, again1 hT u1 q1 L1, rAgain1 r1 q1r L1, ⟨w1, L1⟩, fun t ht b hb => whole1 h0 ht ?_⟩
  rw [hb, ← v1 t, c1 t]

theorem aw2 (x0 y0 x1 y1 : Nat) (h0 : (1 ≤ x0 ∧ x0 ≤ 60) ∧ (1 ≤ y0 ∧ y0 ≤ 60)) (h1 : (1 ≤ x1 ∧ x1 ≤ 60) ∧ (1 ≤ y1 ∧ y1 ≤ 60)) (hT : Pure prog 77 [.lst [nv x0, nv y0, nv x1, nv y1] 2 .no] (.bool true)) : ∃ N, AW (.lst [nv x0, nv y0, nv x1, nv y1] 2 .no) N := by
  have u1 := turns1 x0 y0 h0
  have r1 := rTurns1 x0 y0 h0
  have d1 : 1 ≤ 1 * y0 ∧ 1 * y0 ≤ 60 := ⟨Nat.mul_pos (show 0 < 1 by omega) (by omega), Nat.le_trans (Nat.mul_le_mul (show 1 ≤ 1 by omega) h0.2.2) (by omega)⟩
  have v1 := fun t => dvd_red (a := 1 * x0) (t := t) d1.1
  have z1 := div_dvd (1 * x0) (1 * y0)
  have c1 : ∀ t : Nat, t * x0 = t * (1 * x0) := fun t => by simp only [Nat.one_mul]
  have u2 := turns2 x0 y0 x1 y1 h0 h1
  have r2 := rTurns2 x0 y0 x1 y1 h0 h1
  have d2 : 1 ≤ 1 * y0 * y1 ∧ 1 * y0 * y1 ≤ 3600 := ⟨Nat.mul_pos (show 0 < 1 * y0 by omega) (by omega), Nat.le_trans (Nat.mul_le_mul (show 1 * y0 ≤ 60 by omega) h1.2.2) (by omega)⟩
  have v2 := fun t => dvd_red (a := 1 * x0 * x1) (t := t) d2.1
  have z2 := div_dvd (1 * x0 * x1) (1 * y0 * y1)
  have c2 : ∀ t : Nat, t * x0 * x1 = t * (1 * x0 * x1) := fun t => by simp only [Nat.one_mul, Nat.mul_assoc]
  have w1 : 1 ≤ (1 * y0) / Nat.gcd (1 * x0) (1 * y0) := (red_gcd (n := 1 * x0) d1.1).2
  have w2 : 1 ≤ (1 * y0 * y1) / Nat.gcd (1 * x0 * x1) (1 * y0 * y1) := (red_gcd (n := 1 * x0 * x1) d2.1).2
  generalize hY1 : (1 * y0) / Nat.gcd (1 * x0) (1 * y0) = Y1 at *
  generalize hY2 : (1 * y0 * y1) / Nat.gcd (1 * x0 * x1) (1 * y0 * y1) = Y2 at *
  have t1 : 1 * y0 ∣ 1 * y0 * y1 := Nat.dvd_mul_right _ _
  have i2 : Y2 ≤ 216000 := Nat.le_trans (Nat.le_of_dvd (by omega) z2) (by omega)
  have L1 : Y1 ≤ 216000 := Nat.le_trans (Nat.le_of_dvd (by omega) z1) (by omega)
  have D1 : Y1 ∣ 1 * y0 := z1
  have q1 := gcd_pure 1 Y1 (by omega) (by omega)
  have q1r := rGcd_pure 1 Y1 (by omega) (by omega)
  rw [Nat.gcd_one_left] at q1 q1r
  have D2 : Nat.lcm (Y1) Y2 ∣ 1 * y0 * y1 := Nat.lcm_dvd (Nat.dvd_trans D1 t1) z2
  have e2 : 1 ≤ Nat.gcd (Y1) Y2 := gcd_pos_r w2
  have q2 := gcd_pure (Y1) Y2 (by omega) (by omega)
  have q2r := rGcd_pure (Y1) Y2 (by omega) (by omega)
  have m2 : Y1 / Nat.gcd (Y1) Y2 * Y2 = Nat.lcm (Y1) Y2 := lc_eq
  have P2 : 1 ≤ Nat.lcm (Y1) Y2 := Nat.lcm_pos (by omega) (by omega)
  generalize Nat.gcd (Y1) Y2 = g2 at *
  have L2 : (Y1 / g2 * Y2) ≤ 216000 := by rw [m2]; exact Nat.le_trans (Nat.le_of_dvd (by omega) D2) (by omega)
  have f2 : ∀ t, (Y1 / g2 * Y2) ∣ t ↔ (Y1 ∣ t ∧ Y2 ∣ t) := fun t => by rw [m2]; exact Nat.lcm_dvd_iff
  rw [← m2] at D2 P2
  refine ⟨(Y1 / g2 * Y2), again2 hT u1 u2 q1 q2 e2 L1 L2, rAgain2 r1 r2 q1r q2r e2 L1 L2, ⟨P2, L2⟩, fun t ht b hb => whole2 h0 h1 ht ?_⟩
  rw [hb, f2, ← v1 t, ← v2 t, c2 t, c1 t]

theorem aw3 (x0 y0 x1 y1 x2 y2 : Nat) (h0 : (1 ≤ x0 ∧ x0 ≤ 60) ∧ (1 ≤ y0 ∧ y0 ≤ 60)) (h1 : (1 ≤ x1 ∧ x1 ≤ 60) ∧ (1 ≤ y1 ∧ y1 ≤ 60)) (h2 : (1 ≤ x2 ∧ x2 ≤ 60) ∧ (1 ≤ y2 ∧ y2 ≤ 60)) (hT : Pure prog 77 [.lst [nv x0, nv y0, nv x1, nv y1, nv x2, nv y2] 3 .no] (.bool true)) : ∃ N, AW (.lst [nv x0, nv y0, nv x1, nv y1, nv x2, nv y2] 3 .no) N := by
  have u1 := turns1 x0 y0 h0
  have r1 := rTurns1 x0 y0 h0
  have d1 : 1 ≤ 1 * y0 ∧ 1 * y0 ≤ 60 := ⟨Nat.mul_pos (show 0 < 1 by omega) (by omega), Nat.le_trans (Nat.mul_le_mul (show 1 ≤ 1 by omega) h0.2.2) (by omega)⟩
  have v1 := fun t => dvd_red (a := 1 * x0) (t := t) d1.1
  have z1 := div_dvd (1 * x0) (1 * y0)
  have c1 : ∀ t : Nat, t * x0 = t * (1 * x0) := fun t => by simp only [Nat.one_mul]
  have u2 := turns2 x0 y0 x1 y1 h0 h1
  have r2 := rTurns2 x0 y0 x1 y1 h0 h1
  have d2 : 1 ≤ 1 * y0 * y1 ∧ 1 * y0 * y1 ≤ 3600 := ⟨Nat.mul_pos (show 0 < 1 * y0 by omega) (by omega), Nat.le_trans (Nat.mul_le_mul (show 1 * y0 ≤ 60 by omega) h1.2.2) (by omega)⟩
  have v2 := fun t => dvd_red (a := 1 * x0 * x1) (t := t) d2.1
  have z2 := div_dvd (1 * x0 * x1) (1 * y0 * y1)
  have c2 : ∀ t : Nat, t * x0 * x1 = t * (1 * x0 * x1) := fun t => by simp only [Nat.one_mul, Nat.mul_assoc]
  have u3 := turns3 x0 y0 x1 y1 x2 y2 h0 h1 h2
  have r3 := rTurns3 x0 y0 x1 y1 x2 y2 h0 h1 h2
  have d3 : 1 ≤ 1 * y0 * y1 * y2 ∧ 1 * y0 * y1 * y2 ≤ 216000 := ⟨Nat.mul_pos (show 0 < 1 * y0 * y1 by omega) (by omega), Nat.le_trans (Nat.mul_le_mul (show 1 * y0 * y1 ≤ 3600 by omega) h2.2.2) (by omega)⟩
  have v3 := fun t => dvd_red (a := 1 * x0 * x1 * x2) (t := t) d3.1
  have z3 := div_dvd (1 * x0 * x1 * x2) (1 * y0 * y1 * y2)
  have c3 : ∀ t : Nat, t * x0 * x1 * x2 = t * (1 * x0 * x1 * x2) := fun t => by simp only [Nat.one_mul, Nat.mul_assoc]
  have w1 : 1 ≤ (1 * y0) / Nat.gcd (1 * x0) (1 * y0) := (red_gcd (n := 1 * x0) d1.1).2
  have w2 : 1 ≤ (1 * y0 * y1) / Nat.gcd (1 * x0 * x1) (1 * y0 * y1) := (red_gcd (n := 1 * x0 * x1) d2.1).2
  have w3 : 1 ≤ (1 * y0 * y1 * y2) / Nat.gcd (1 * x0 * x1 * x2) (1 * y0 * y1 * y2) := (red_gcd (n := 1 * x0 * x1 * x2) d3.1).2
  generalize hY1 : (1 * y0) / Nat.gcd (1 * x0) (1 * y0) = Y1 at *
  generalize hY2 : (1 * y0 * y1) / Nat.gcd (1 * x0 * x1) (1 * y0 * y1) = Y2 at *
  generalize hY3 : (1 * y0 * y1 * y2) / Nat.gcd (1 * x0 * x1 * x2) (1 * y0 * y1 * y2) = Y3 at *
  have t1 : 1 * y0 ∣ 1 * y0 * y1 := Nat.dvd_mul_right _ _
  have t2 : 1 * y0 * y1 ∣ 1 * y0 * y1 * y2 := Nat.dvd_mul_right _ _
  have i2 : Y2 ≤ 216000 := Nat.le_trans (Nat.le_of_dvd (by omega) z2) (by omega)
  have i3 : Y3 ≤ 216000 := Nat.le_trans (Nat.le_of_dvd (by omega) z3) (by omega)
  have L1 : Y1 ≤ 216000 := Nat.le_trans (Nat.le_of_dvd (by omega) z1) (by omega)
  have D1 : Y1 ∣ 1 * y0 := z1
  have q1 := gcd_pure 1 Y1 (by omega) (by omega)
  have q1r := rGcd_pure 1 Y1 (by omega) (by omega)
  rw [Nat.gcd_one_left] at q1 q1r
  have D2 : Nat.lcm (Y1) Y2 ∣ 1 * y0 * y1 := Nat.lcm_dvd (Nat.dvd_trans D1 t1) z2
  have e2 : 1 ≤ Nat.gcd (Y1) Y2 := gcd_pos_r w2
  have q2 := gcd_pure (Y1) Y2 (by omega) (by omega)
  have q2r := rGcd_pure (Y1) Y2 (by omega) (by omega)
  have m2 : Y1 / Nat.gcd (Y1) Y2 * Y2 = Nat.lcm (Y1) Y2 := lc_eq
  have P2 : 1 ≤ Nat.lcm (Y1) Y2 := Nat.lcm_pos (by omega) (by omega)
  generalize Nat.gcd (Y1) Y2 = g2 at *
  have L2 : (Y1 / g2 * Y2) ≤ 216000 := by rw [m2]; exact Nat.le_trans (Nat.le_of_dvd (by omega) D2) (by omega)
  have f2 : ∀ t, (Y1 / g2 * Y2) ∣ t ↔ (Y1 ∣ t ∧ Y2 ∣ t) := fun t => by rw [m2]; exact Nat.lcm_dvd_iff
  rw [← m2] at D2 P2
  have D3 : Nat.lcm ((Y1 / g2 * Y2)) Y3 ∣ 1 * y0 * y1 * y2 := Nat.lcm_dvd (Nat.dvd_trans D2 t2) z3
  have e3 : 1 ≤ Nat.gcd ((Y1 / g2 * Y2)) Y3 := gcd_pos_r w3
  have q3 := gcd_pure ((Y1 / g2 * Y2)) Y3 (by omega) (by omega)
  have q3r := rGcd_pure ((Y1 / g2 * Y2)) Y3 (by omega) (by omega)
  have m3 : (Y1 / g2 * Y2) / Nat.gcd ((Y1 / g2 * Y2)) Y3 * Y3 = Nat.lcm ((Y1 / g2 * Y2)) Y3 := lc_eq
  have P3 : 1 ≤ Nat.lcm ((Y1 / g2 * Y2)) Y3 := Nat.lcm_pos (by omega) (by omega)
  generalize Nat.gcd ((Y1 / g2 * Y2)) Y3 = g3 at *
  have L3 : ((Y1 / g2 * Y2) / g3 * Y3) ≤ 216000 := by rw [m3]; exact Nat.le_trans (Nat.le_of_dvd (by omega) D3) (by omega)
  have f3 : ∀ t, ((Y1 / g2 * Y2) / g3 * Y3) ∣ t ↔ ((Y1 / g2 * Y2) ∣ t ∧ Y3 ∣ t) := fun t => by rw [m3]; exact Nat.lcm_dvd_iff
  rw [← m3] at D3 P3
  refine ⟨((Y1 / g2 * Y2) / g3 * Y3), again3 hT u1 u2 u3 q1 q2 e2 q3 e3 L1 L2 L3, rAgain3 r1 r2 r3 q1r q2r e2 q3r e3 L1 L2 L3, ⟨P3, L3⟩, fun t ht b hb => whole3 h0 h1 h2 ht ?_⟩
  rw [hb, f3, f2, ← v1 t, ← v2 t, ← v3 t, c3 t, c2 t, c1 t, and_assoc]

end Go.Abs.Seat
