/-
  The document's neighbors.
-/
import Derived.Test.YtgojpjbbahljeaaGreatDoorC3
/-! The document's neighbors. -/
namespace Go.Abs.Seat
open Go Go.Abs Go.Proofs.Tryz
set_option maxRecDepth 100000
set_option maxHeartbeats 4000000
attribute [local irreducible] IntKind.wrap pEq

theorem mulN {a b : Nat} (h : a * b < 9223372036854775808) : IntKind.i64.wrap (Int.ofNat a * Int.ofNat b) = Int.ofNat (a * b) := wrapN (m := a * b) h
theorem addN {a b : Nat} (h : a + b < 9223372036854775808) : IntKind.i64.wrap (Int.ofNat a + Int.ofNat b) = Int.ofNat (a + b) := wrapN (m := a + b) h
theorem add1 {a : Nat} (h : a + 1 < 9223372036854775808) : IntKind.i64.wrap (Int.ofNat a + 1) = Int.ofNat (a + 1) := wrapN (m := a + 1) h
theorem quoN {a b : Nat} (h : a < 9223372036854775808) : IntKind.i64.wrap ((Int.ofNat a).tdiv (Int.ofNat b)) = Int.ofNat (a / b) := wrapN (m := a / b) (Nat.lt_of_le_of_lt (Nat.div_le_self _ _) h)
theorem neN (a b : Nat) : (Int.ofNat a != Int.ofNat b) = true ↔ a ≠ b := by
  rw [bne_iff_ne]
  show (a : Int) ≠ (b : Int) ↔ _
  omega
theorem eqN (a b : Nat) : (Int.ofNat a == Int.ofNat b) = true ↔ a = b := by
  rw [beq_iff_eq]
  show (a : Int) = (b : Int) ↔ _
  omega

theorem rBelow_pure (a b c d : Nat) (h1 : a * d < 4611686018427387904) (h2 : c * b < 4611686018427387904) :
    Pure prog 23 [fv (Int.ofNat a) (Int.ofNat b), fv (Int.ofNat c) (Int.ofNat d)] (.bool (decide (a * d < c * b))) := by
  refine pure_sym hE rfl ⟨⟨trivial, trivial, trivial⟩, ⟨trivial, trivial, trivial⟩, trivial⟩ trivial fun S q hS hq hE => ?_
  conv => whnf
  refine ⟨_, rfl, ?_⟩
  rw [mulN (a := a) (b := d) (by omega), mulN (a := c) (b := b) (by omega), show decide (a * d < c * b) = decide (Int.ofNat (a * d) < Int.ofNat (c * b)) from by rw [Bool.eq_iff_iff, ltN, decide_eq_true_eq]]
  exact Wk.refl _

theorem up_eq {a d : Nat} (hd : 1 ≤ d) : (a + d - 1) / d = if a / d * d = a then a / d else a / d + 1 := by
  have h1 := Nat.div_add_mod a d
  have h2 := Nat.mod_lt a (show d > 0 by omega)
  have h3 : a / d * d = d * (a / d) := Nat.mul_comm _ _
  split
  · rename_i e
    have e1 : a + d - 1 = a / d * d + (d - 1) := by omega
    rw [e1, Nat.mul_comm, Nat.mul_add_div (by omega), Nat.div_eq_of_lt (show d - 1 < d by omega)]
    rfl
  · rename_i e
    have e1 : a + d - 1 = (a / d + 1) * d + (a % d - 1) := by
      rw [Nat.add_mul]
      have : a % d ≠ 0 := fun h => e (by omega)
      omega
    rw [e1, Nat.mul_comm, Nat.mul_add_div (by omega), Nat.div_eq_of_lt (show a % d - 1 < d by omega)]

theorem rAround_pure (n d m : Nat) (hn : n ≤ 50000) (hd : 1 ≤ d) (_hd' : d ≤ 50000) (hm : 1 ≤ m) (hm' : m ≤ 50000) :
    Pure prog 20 [fv (Int.ofNat n) (Int.ofNat d), nv m] (.tup [.agg [nv (lowS n d (m - 1)).1, nv (lowS n d (m - 1)).2], .agg [nv (highS n d (m - 1)).1, nv (highS n d (m - 1)).2]]) := by
  refine pure_sym hE rfl ⟨⟨trivial, trivial, trivial⟩, trivial, trivial⟩ ⟨⟨trivial, trivial, trivial⟩, ⟨trivial, trivial, trivial⟩, trivial⟩ fun S q hS hq hE => ?_
  have q1 : n / d ≤ n := Nat.div_le_self _ _
  have q2 : n / d * d ≤ n := Nat.div_mul_le_self _ _
  conv => whnf
  refine sym_unroll hE hS ?_
  conv => whnf
  refine bool_true ((leN 1 m).2 hm) ?_
  conv => whnf
  refine bool_true (ne0 hd) ?_
  conv => whnf
  rw [show IntKind.i64.wrap (Int.ofNat n * 1) = Int.ofNat n from by rw [Int.mul_one]; exact wrapN (by omega), quoN (by omega), mulN (a := n / d) (b := d) (by omega)]
  have hu0 := up_eq (a := n) hd
  refine bool_if (p := n / d * d ≠ n) (neN _ _) (fun hc => ?_) (fun hc => ?_)
  · rw [if_neg hc] at hu0
    have hq : highS n d 0 = (n / d + 1, 1) := by rw [highS, hu0]
    conv => whnf
    rw [add1 (by omega), show IntKind.i64.wrap (1 + 1) = 2 from wrapI (by decide) (by decide)]
    refine sym_loop hE hS (A := Nat) [1, 2, 4, 5, 6, 7] (fun k => [(8, nv (k + 2))]) (fun k => [(3, cell2 (Int.ofNat (lowS n d k).1) (Int.ofNat (lowS n d k).2) 23), (4, cell2 (Int.ofNat (highS n d k).1) (Int.ofNat (highS n d k).2) 23)])
      (fun k => k + 1 ≤ m) (fun k => m - k) 0 rfl rfl
      ⟨rfl, rfl, rfl, rfl, by repeat' (first | apply And.intro | exact rfl | exact trivial | exact Nat.zero_le _ | exact Nat.le_of_ble_eq_true rfl),
        by dsimp only; rw [hq]; repeat' (first | apply And.intro | exact rfl | exact trivial | exact Nat.zero_le _ | exact Nat.le_of_ble_eq_true rfl)⟩ hm ?_
    intro k hk
    have hl := lowS_le n d hd k
    have hh := highS_le n d hd k
    have b1 : n * (k + 2) ≤ 50000 * 50001 := Nat.mul_le_mul hn (by omega)
    have b2 : n * (k + 2) / d ≤ n * (k + 2) := Nat.div_le_self _ _
    have b2' : n * (k + 2) / d * d ≤ n * (k + 2) := Nat.div_mul_le_self _ _
    have b3 : n * (k + 2) / d * (lowS n d k).2 ≤ 50000 * 50001 * 50001 := Nat.mul_le_mul (by omega) (by omega)
    have b4 : (lowS n d k).1 * (k + 2) ≤ 50000 * 50001 * 50001 := Nat.mul_le_mul (Nat.le_trans hl.2.2 (Nat.mul_le_mul hn (by omega))) (by omega)
    have b5 : (n * (k + 2) / d + 1) * (highS n d k).2 ≤ (50000 * 50001 + 1) * 50001 := Nat.mul_le_mul (by omega) (by omega)
    have b5' : n * (k + 2) / d * (highS n d k).2 ≤ (50000 * 50001 + 1) * 50001 := Nat.mul_le_mul (by omega) (by omega)
    have b6 : (highS n d k).1 * (k + 2) ≤ (50000 * 50001 + 1) * 50001 := Nat.mul_le_mul (Nat.le_trans hh.2.2 (Nat.add_le_add_right (Nat.mul_le_mul hn (by omega)) 1)) (by omega)
    have hu := up_eq (a := n * (k + 2)) hd
    have eL : lowS n d (k + 1) = if (lowS n d k).1 * (k + 2) < n * (k + 2) / d * (lowS n d k).2 then (n * (k + 2) / d, k + 2) else lowS n d k := rfl
    have eH : highS n d (k + 1) = if (n * (k + 2) + d - 1) / d * (highS n d k).2 < (highS n d k).1 * (k + 2) then ((n * (k + 2) + d - 1) / d, k + 2) else highS n d k := rfl
    have e11 : (Int.ofNat (k + 2) == 1) = false := beq_eq_false_iff_ne.2 (by show ((k + 2 : Nat) : Int) ≠ 1; omega)
    conv => whnf
    refine bool_if (p := k + 2 ≤ m) (leN _ _) (fun hlt => ?_) (fun hlt => ?_)
    · conv => whnf
      refine bool_true (ne0 hd) ?_
      conv => whnf
      rw [mulN (a := n) (b := k + 2) (by omega), quoN (by omega), mulN (a := n * (k + 2) / d) (b := d) (by omega)]
      refine bool_if (p := n * (k + 2) / d * d ≠ n * (k + 2)) (neN _ _) (fun hc1 => ?_) (fun hc1 => ?_)
      · rw [if_neg hc1] at hu
        rw [hu] at eH
        conv => whnf
        rw [e11, add1 (by omega)]
        conv => whnf
        refine sym_pure hS (rBelow_pure (lowS n d k).1 (lowS n d k).2 (n * (k + 2) / d) (k + 2) (by omega) (by omega)) ?_
        by_cases hp1 : (lowS n d k).1 * (k + 2) < n * (k + 2) / d * (lowS n d k).2
        · rw [if_pos hp1] at eL
          rw [decide_eq_true hp1]
          conv => whnf
          refine sym_pure hS (rBelow_pure (n * (k + 2) / d + 1) (k + 2) (highS n d k).1 (highS n d k).2 (by omega) (by omega)) ?_
          by_cases hp2 : (n * (k + 2) / d + 1) * (highS n d k).2 < (highS n d k).1 * (k + 2)
          · rw [if_pos hp2] at eH
            rw [decide_eq_true hp2]
            conv => whnf
            rw [add1 (a := k + 2) (by omega)]
            refine ⟨k + 1, by omega, by omega, ⟨rfl, rfl, rfl, rfl, by repeat' (first | apply And.intro | exact rfl | exact trivial | exact Nat.zero_le _ | exact Nat.le_of_ble_eq_true rfl), ?_⟩⟩
            dsimp only
            rw [eL, eH]
            repeat' (first | apply And.intro | exact rfl | exact trivial | exact Nat.zero_le _ | exact Nat.le_of_ble_eq_true rfl)
          · rw [if_neg hp2] at eH
            rw [decide_eq_false hp2]
            conv => whnf
            rw [add1 (a := k + 2) (by omega)]
            refine ⟨k + 1, by omega, by omega, ⟨rfl, rfl, rfl, rfl, by repeat' (first | apply And.intro | exact rfl | exact trivial | exact Nat.zero_le _ | exact Nat.le_of_ble_eq_true rfl), ?_⟩⟩
            dsimp only
            rw [eL, eH]
            repeat' (first | apply And.intro | exact rfl | exact trivial | exact Nat.zero_le _ | exact Nat.le_of_ble_eq_true rfl)
        · rw [if_neg hp1] at eL
          rw [decide_eq_false hp1]
          conv => whnf
          refine sym_pure hS (rBelow_pure (n * (k + 2) / d + 1) (k + 2) (highS n d k).1 (highS n d k).2 (by omega) (by omega)) ?_
          by_cases hp2 : (n * (k + 2) / d + 1) * (highS n d k).2 < (highS n d k).1 * (k + 2)
          · rw [if_pos hp2] at eH
            rw [decide_eq_true hp2]
            conv => whnf
            rw [add1 (a := k + 2) (by omega)]
            refine ⟨k + 1, by omega, by omega, ⟨rfl, rfl, rfl, rfl, by repeat' (first | apply And.intro | exact rfl | exact trivial | exact Nat.zero_le _ | exact Nat.le_of_ble_eq_true rfl), ?_⟩⟩
            dsimp only
            rw [eL, eH]
            repeat' (first | apply And.intro | exact rfl | exact trivial | exact Nat.zero_le _ | exact Nat.le_of_ble_eq_true rfl)
          · rw [if_neg hp2] at eH
            rw [decide_eq_false hp2]
            conv => whnf
            rw [add1 (a := k + 2) (by omega)]
            refine ⟨k + 1, by omega, by omega, ⟨rfl, rfl, rfl, rfl, by repeat' (first | apply And.intro | exact rfl | exact trivial | exact Nat.zero_le _ | exact Nat.le_of_ble_eq_true rfl), ?_⟩⟩
            dsimp only
            rw [eL, eH]
            repeat' (first | apply And.intro | exact rfl | exact trivial | exact Nat.zero_le _ | exact Nat.le_of_ble_eq_true rfl)
      · rw [if_pos (Decidable.not_not.1 hc1)] at hu
        rw [hu] at eH
        conv => whnf
        rw [e11]
        conv => whnf
        refine sym_pure hS (rBelow_pure (lowS n d k).1 (lowS n d k).2 (n * (k + 2) / d) (k + 2) (by omega) (by omega)) ?_
        by_cases hp1 : (lowS n d k).1 * (k + 2) < n * (k + 2) / d * (lowS n d k).2
        · rw [if_pos hp1] at eL
          rw [decide_eq_true hp1]
          conv => whnf
          refine sym_pure hS (rBelow_pure (n * (k + 2) / d) (k + 2) (highS n d k).1 (highS n d k).2 (by omega) (by omega)) ?_
          by_cases hp2 : (n * (k + 2) / d) * (highS n d k).2 < (highS n d k).1 * (k + 2)
          · rw [if_pos hp2] at eH
            rw [decide_eq_true hp2]
            conv => whnf
            rw [add1 (a := k + 2) (by omega)]
            refine ⟨k + 1, by omega, by omega, ⟨rfl, rfl, rfl, rfl, by repeat' (first | apply And.intro | exact rfl | exact trivial | exact Nat.zero_le _ | exact Nat.le_of_ble_eq_true rfl), ?_⟩⟩
            dsimp only
            rw [eL, eH]
            repeat' (first | apply And.intro | exact rfl | exact trivial | exact Nat.zero_le _ | exact Nat.le_of_ble_eq_true rfl)
          · rw [if_neg hp2] at eH
            rw [decide_eq_false hp2]
            conv => whnf
            rw [add1 (a := k + 2) (by omega)]
            refine ⟨k + 1, by omega, by omega, ⟨rfl, rfl, rfl, rfl, by repeat' (first | apply And.intro | exact rfl | exact trivial | exact Nat.zero_le _ | exact Nat.le_of_ble_eq_true rfl), ?_⟩⟩
            dsimp only
            rw [eL, eH]
            repeat' (first | apply And.intro | exact rfl | exact trivial | exact Nat.zero_le _ | exact Nat.le_of_ble_eq_true rfl)
        · rw [if_neg hp1] at eL
          rw [decide_eq_false hp1]
          conv => whnf
          refine sym_pure hS (rBelow_pure (n * (k + 2) / d) (k + 2) (highS n d k).1 (highS n d k).2 (by omega) (by omega)) ?_
          by_cases hp2 : (n * (k + 2) / d) * (highS n d k).2 < (highS n d k).1 * (k + 2)
          · rw [if_pos hp2] at eH
            rw [decide_eq_true hp2]
            conv => whnf
            rw [add1 (a := k + 2) (by omega)]
            refine ⟨k + 1, by omega, by omega, ⟨rfl, rfl, rfl, rfl, by repeat' (first | apply And.intro | exact rfl | exact trivial | exact Nat.zero_le _ | exact Nat.le_of_ble_eq_true rfl), ?_⟩⟩
            dsimp only
            rw [eL, eH]
            repeat' (first | apply And.intro | exact rfl | exact trivial | exact Nat.zero_le _ | exact Nat.le_of_ble_eq_true rfl)
          · rw [if_neg hp2] at eH
            rw [decide_eq_false hp2]
            conv => whnf
            rw [add1 (a := k + 2) (by omega)]
            refine ⟨k + 1, by omega, by omega, ⟨rfl, rfl, rfl, rfl, by repeat' (first | apply And.intro | exact rfl | exact trivial | exact Nat.zero_le _ | exact Nat.le_of_ble_eq_true rfl), ?_⟩⟩
            dsimp only
            rw [eL, eH]
            repeat' (first | apply And.intro | exact rfl | exact trivial | exact Nat.zero_le _ | exact Nat.le_of_ble_eq_true rfl)
    · conv => whnf
      refine sym_drawn hS (by kernel_rfl) ?_
      conv => whnf
      have e : m - 1 = k := by omega
      rw [e]
      exact ⟨_, rfl, Wk.refl _⟩
  · rw [if_pos (Decidable.not_not.1 hc)] at hu0
    have hq : highS n d 0 = (n / d, 1) := by rw [highS, hu0]
    conv => whnf
    rw [show IntKind.i64.wrap (1 + 1) = 2 from wrapI (by decide) (by decide)]
    refine sym_loop hE hS (A := Nat) [1, 2, 4, 5, 6, 7] (fun k => [(8, nv (k + 2))]) (fun k => [(3, cell2 (Int.ofNat (lowS n d k).1) (Int.ofNat (lowS n d k).2) 23), (4, cell2 (Int.ofNat (highS n d k).1) (Int.ofNat (highS n d k).2) 23)])
      (fun k => k + 1 ≤ m) (fun k => m - k) 0 rfl rfl
      ⟨rfl, rfl, rfl, rfl, by repeat' (first | apply And.intro | exact rfl | exact trivial | exact Nat.zero_le _ | exact Nat.le_of_ble_eq_true rfl),
        by dsimp only; rw [hq]; repeat' (first | apply And.intro | exact rfl | exact trivial | exact Nat.zero_le _ | exact Nat.le_of_ble_eq_true rfl)⟩ hm ?_
    intro k hk
    have hl := lowS_le n d hd k
    have hh := highS_le n d hd k
    have b1 : n * (k + 2) ≤ 50000 * 50001 := Nat.mul_le_mul hn (by omega)
    have b2 : n * (k + 2) / d ≤ n * (k + 2) := Nat.div_le_self _ _
    have b2' : n * (k + 2) / d * d ≤ n * (k + 2) := Nat.div_mul_le_self _ _
    have b3 : n * (k + 2) / d * (lowS n d k).2 ≤ 50000 * 50001 * 50001 := Nat.mul_le_mul (by omega) (by omega)
    have b4 : (lowS n d k).1 * (k + 2) ≤ 50000 * 50001 * 50001 := Nat.mul_le_mul (Nat.le_trans hl.2.2 (Nat.mul_le_mul hn (by omega))) (by omega)
    have b5 : (n * (k + 2) / d + 1) * (highS n d k).2 ≤ (50000 * 50001 + 1) * 50001 := Nat.mul_le_mul (by omega) (by omega)
    have b5' : n * (k + 2) / d * (highS n d k).2 ≤ (50000 * 50001 + 1) * 50001 := Nat.mul_le_mul (by omega) (by omega)
    have b6 : (highS n d k).1 * (k + 2) ≤ (50000 * 50001 + 1) * 50001 := Nat.mul_le_mul (Nat.le_trans hh.2.2 (Nat.add_le_add_right (Nat.mul_le_mul hn (by omega)) 1)) (by omega)
    have hu := up_eq (a := n * (k + 2)) hd
    have eL : lowS n d (k + 1) = if (lowS n d k).1 * (k + 2) < n * (k + 2) / d * (lowS n d k).2 then (n * (k + 2) / d, k + 2) else lowS n d k := rfl
    have eH : highS n d (k + 1) = if (n * (k + 2) + d - 1) / d * (highS n d k).2 < (highS n d k).1 * (k + 2) then ((n * (k + 2) + d - 1) / d, k + 2) else highS n d k := rfl
    have e11 : (Int.ofNat (k + 2) == 1) = false := beq_eq_false_iff_ne.2 (by show ((k + 2 : Nat) : Int) ≠ 1; omega)
    conv => whnf
    refine bool_if (p := k + 2 ≤ m) (leN _ _) (fun hlt => ?_) (fun hlt => ?_)
    · conv => whnf
      refine bool_true (ne0 hd) ?_
      conv => whnf
      rw [mulN (a := n) (b := k + 2) (by omega), quoN (by omega), mulN (a := n * (k + 2) / d) (b := d) (by omega)]
      refine bool_if (p := n * (k + 2) / d * d ≠ n * (k + 2)) (neN _ _) (fun hc1 => ?_) (fun hc1 => ?_)
      · rw [if_neg hc1] at hu
        rw [hu] at eH
        conv => whnf
        rw [e11, add1 (by omega)]
        conv => whnf
        refine sym_pure hS (rBelow_pure (lowS n d k).1 (lowS n d k).2 (n * (k + 2) / d) (k + 2) (by omega) (by omega)) ?_
        by_cases hp1 : (lowS n d k).1 * (k + 2) < n * (k + 2) / d * (lowS n d k).2
        · rw [if_pos hp1] at eL
          rw [decide_eq_true hp1]
          conv => whnf
          refine sym_pure hS (rBelow_pure (n * (k + 2) / d + 1) (k + 2) (highS n d k).1 (highS n d k).2 (by omega) (by omega)) ?_
          by_cases hp2 : (n * (k + 2) / d + 1) * (highS n d k).2 < (highS n d k).1 * (k + 2)
          · rw [if_pos hp2] at eH
            rw [decide_eq_true hp2]
            conv => whnf
            rw [add1 (a := k + 2) (by omega)]
            refine ⟨k + 1, by omega, by omega, ⟨rfl, rfl, rfl, rfl, by repeat' (first | apply And.intro | exact rfl | exact trivial | exact Nat.zero_le _ | exact Nat.le_of_ble_eq_true rfl), ?_⟩⟩
            dsimp only
            rw [eL, eH]
            repeat' (first | apply And.intro | exact rfl | exact trivial | exact Nat.zero_le _ | exact Nat.le_of_ble_eq_true rfl)
          · rw [if_neg hp2] at eH
            rw [decide_eq_false hp2]
            conv => whnf
            rw [add1 (a := k + 2) (by omega)]
            refine ⟨k + 1, by omega, by omega, ⟨rfl, rfl, rfl, rfl, by repeat' (first | apply And.intro | exact rfl | exact trivial | exact Nat.zero_le _ | exact Nat.le_of_ble_eq_true rfl), ?_⟩⟩
            dsimp only
            rw [eL, eH]
            repeat' (first | apply And.intro | exact rfl | exact trivial | exact Nat.zero_le _ | exact Nat.le_of_ble_eq_true rfl)
        · rw [if_neg hp1] at eL
          rw [decide_eq_false hp1]
          conv => whnf
          refine sym_pure hS (rBelow_pure (n * (k + 2) / d + 1) (k + 2) (highS n d k).1 (highS n d k).2 (by omega) (by omega)) ?_
          by_cases hp2 : (n * (k + 2) / d + 1) * (highS n d k).2 < (highS n d k).1 * (k + 2)
          · rw [if_pos hp2] at eH
            rw [decide_eq_true hp2]
            conv => whnf
            rw [add1 (a := k + 2) (by omega)]
            refine ⟨k + 1, by omega, by omega, ⟨rfl, rfl, rfl, rfl, by repeat' (first | apply And.intro | exact rfl | exact trivial | exact Nat.zero_le _ | exact Nat.le_of_ble_eq_true rfl), ?_⟩⟩
            dsimp only
            rw [eL, eH]
            repeat' (first | apply And.intro | exact rfl | exact trivial | exact Nat.zero_le _ | exact Nat.le_of_ble_eq_true rfl)
          · rw [if_neg hp2] at eH
            rw [decide_eq_false hp2]
            conv => whnf
            rw [add1 (a := k + 2) (by omega)]
            refine ⟨k + 1, by omega, by omega, ⟨rfl, rfl, rfl, rfl, by repeat' (first | apply And.intro | exact rfl | exact trivial | exact Nat.zero_le _ | exact Nat.le_of_ble_eq_true rfl), ?_⟩⟩
            dsimp only
            rw [eL, eH]
            repeat' (first | apply And.intro | exact rfl | exact trivial | exact Nat.zero_le _ | exact Nat.le_of_ble_eq_true rfl)
      · rw [if_pos (Decidable.not_not.1 hc1)] at hu
        rw [hu] at eH
        conv => whnf
        rw [e11]
        conv => whnf
        refine sym_pure hS (rBelow_pure (lowS n d k).1 (lowS n d k).2 (n * (k + 2) / d) (k + 2) (by omega) (by omega)) ?_
        by_cases hp1 : (lowS n d k).1 * (k + 2) < n * (k + 2) / d * (lowS n d k).2
        · rw [if_pos hp1] at eL
          rw [decide_eq_true hp1]
          conv => whnf
          refine sym_pure hS (rBelow_pure (n * (k + 2) / d) (k + 2) (highS n d k).1 (highS n d k).2 (by omega) (by omega)) ?_
          by_cases hp2 : (n * (k + 2) / d) * (highS n d k).2 < (highS n d k).1 * (k + 2)
          · rw [if_pos hp2] at eH
            rw [decide_eq_true hp2]
            conv => whnf
            rw [add1 (a := k + 2) (by omega)]
            refine ⟨k + 1, by omega, by omega, ⟨rfl, rfl, rfl, rfl, by repeat' (first | apply And.intro | exact rfl | exact trivial | exact Nat.zero_le _ | exact Nat.le_of_ble_eq_true rfl), ?_⟩⟩
            dsimp only
            rw [eL, eH]
            repeat' (first | apply And.intro | exact rfl | exact trivial | exact Nat.zero_le _ | exact Nat.le_of_ble_eq_true rfl)
          · rw [if_neg hp2] at eH
            rw [decide_eq_false hp2]
            conv => whnf
            rw [add1 (a := k + 2) (by omega)]
            refine ⟨k + 1, by omega, by omega, ⟨rfl, rfl, rfl, rfl, by repeat' (first | apply And.intro | exact rfl | exact trivial | exact Nat.zero_le _ | exact Nat.le_of_ble_eq_true rfl), ?_⟩⟩
            dsimp only
            rw [eL, eH]
            repeat' (first | apply And.intro | exact rfl | exact trivial | exact Nat.zero_le _ | exact Nat.le_of_ble_eq_true rfl)
        · rw [if_neg hp1] at eL
          rw [decide_eq_false hp1]
          conv => whnf
          refine sym_pure hS (rBelow_pure (n * (k + 2) / d) (k + 2) (highS n d k).1 (highS n d k).2 (by omega) (by omega)) ?_
          by_cases hp2 : (n * (k + 2) / d) * (highS n d k).2 < (highS n d k).1 * (k + 2)
          · rw [if_pos hp2] at eH
            rw [decide_eq_true hp2]
            conv => whnf
            rw [add1 (a := k + 2) (by omega)]
            refine ⟨k + 1, by omega, by omega, ⟨rfl, rfl, rfl, rfl, by repeat' (first | apply And.intro | exact rfl | exact trivial | exact Nat.zero_le _ | exact Nat.le_of_ble_eq_true rfl), ?_⟩⟩
            dsimp only
            rw [eL, eH]
            repeat' (first | apply And.intro | exact rfl | exact trivial | exact Nat.zero_le _ | exact Nat.le_of_ble_eq_true rfl)
          · rw [if_neg hp2] at eH
            rw [decide_eq_false hp2]
            conv => whnf
            rw [add1 (a := k + 2) (by omega)]
            refine ⟨k + 1, by omega, by omega, ⟨rfl, rfl, rfl, rfl, by repeat' (first | apply And.intro | exact rfl | exact trivial | exact Nat.zero_le _ | exact Nat.le_of_ble_eq_true rfl), ?_⟩⟩
            dsimp only
            rw [eL, eH]
            repeat' (first | apply And.intro | exact rfl | exact trivial | exact Nat.zero_le _ | exact Nat.le_of_ble_eq_true rfl)
    · conv => whnf
      refine sym_drawn hS (by kernel_rfl) ?_
      conv => whnf
      have e : m - 1 = k := by omega
      rw [e]
      exact ⟨_, rfl, Wk.refl _⟩
end Go.Abs.Seat
