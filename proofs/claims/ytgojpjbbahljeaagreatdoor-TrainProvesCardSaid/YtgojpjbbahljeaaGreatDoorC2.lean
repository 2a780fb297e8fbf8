/-
  The neighbors of a fraction.
-/
import Derived.Test.YtgojpjbbahljeaaGreatDoorC1
/-! The neighbors of a fraction. -/
namespace Go.Abs.Seat
open Go Go.Abs Go.Proofs.Tryz
set_option maxRecDepth 100000
set_option maxHeartbeats 4000000
attribute [local irreducible] IntKind.wrap pEq

/-- The greatest of the fractions that are not greater, with denominators up to k + 1. -/
def lowS (n d : Nat) : Nat → Nat × Nat
  | 0 => (n / d, 1)
  | k + 1 => if (lowS n d k).1 * (k + 2) < n * (k + 2) / d * (lowS n d k).2 then (n * (k + 2) / d, k + 2) else lowS n d k

theorem lowS_le (n d : Nat) (hd : 1 ≤ d) : ∀ k, 1 ≤ (lowS n d k).2 ∧ (lowS n d k).2 ≤ k + 1 ∧ (lowS n d k).1 ≤ n * (k + 1)
  | 0 => ⟨Nat.le_refl _, Nat.le_refl _, by simp [lowS]; exact Nat.div_le_self _ _⟩
  | k + 1 => by
    have ih := lowS_le n d hd k
    unfold lowS
    split
    · exact ⟨by simp, Nat.le_refl _, Nat.div_le_self _ _⟩
    · exact ⟨ih.1, by omega, Nat.le_trans ih.2.2 (Nat.mul_le_mul_left _ (by omega))⟩

abbrev cell2 (a b : Int) (t : Nat) : AObj := .cells (.node (iv a) (.node (iv b) .nil .nil) .nil) 2 t

theorem below_pure (n d m : Nat) (hn : n ≤ 50000) (hd : 1 ≤ d) (_hd' : d ≤ 50000) (hm : 1 ≤ m) (hm' : m ≤ 50000) :
    Pure prog 92 [.agg [nv n, nv d, nv m]] (fv (Int.ofNat (lowS n d (m - 1)).1) (Int.ofNat (lowS n d (m - 1)).2)) := by
  refine pure_sym hE rfl ⟨⟨trivial, trivial, trivial, trivial⟩, trivial⟩ ⟨trivial, trivial, trivial⟩ fun S q hS hq hE => ?_
  conv => whnf
  refine bool_true (ne0 hd) ?_
  conv => whnf
  rw [show IntKind.i64.wrap ((Int.ofNat n).tdiv (Int.ofNat d)) = Int.ofNat (n / d) from wrapN (m := n / d) (by have := Nat.div_le_self n d; omega)]
  refine sym_loop hE hS (A := Nat) [1, 2, 3] (fun k => [(4, nv (k + 2))]) (fun k => [(2, cell2 (Int.ofNat (lowS n d k).1) (Int.ofNat (lowS n d k).2) 23)]) (fun k => k + 1 ≤ m) (fun k => m - k) 0 rfl rfl
    ⟨rfl, rfl, rfl, rfl, by repeat' (first | exact trivial | exact rfl | exact Nat.zero_le _ | exact Nat.le_of_ble_eq_true rfl | apply And.intro),
      by repeat' (first | exact trivial | exact rfl | exact Nat.zero_le _ | exact Nat.le_of_ble_eq_true rfl | apply And.intro)⟩ hm ?_
  intro k hk
  have hl := lowS_le n d hd k
  have b1 : n * (k + 2) ≤ 50000 * 50001 := Nat.mul_le_mul hn (by omega)
  have b2 : n * (k + 2) / d ≤ n * (k + 2) := Nat.div_le_self _ _
  have b3 : n * (k + 2) / d * (lowS n d k).2 ≤ 50000 * 50001 * 50001 := Nat.mul_le_mul (by omega) (by omega)
  have b4 : (lowS n d k).1 * (k + 2) ≤ 50000 * 50001 * 50001 := Nat.mul_le_mul (Nat.le_trans hl.2.2 (Nat.mul_le_mul hn (by omega))) (by omega)
  conv => whnf
  refine bool_if (p := k + 2 ≤ m) (leN _ _) (fun hlt => ?_) (fun hlt => ?_)
  · conv => whnf
    refine bool_true (ne0 hd) ?_
    conv => whnf
    rw [show IntKind.i64.wrap (Int.ofNat n * Int.ofNat (k + 2)) = Int.ofNat (n * (k + 2)) from wrapN (m := n * (k + 2)) (by omega),
      show IntKind.i64.wrap ((Int.ofNat (n * (k + 2))).tdiv (Int.ofNat d)) = Int.ofNat (n * (k + 2) / d) from wrapN (m := n * (k + 2) / d) (by omega)]
    refine sym_pure hS (compare_pure (n * (k + 2) / d) (k + 2) (lowS n d k).1 (lowS n d k).2 (by omega) (by omega)) ?_
    conv => whnf
    refine bool_if (p := (lowS n d k).1 * (k + 2) < n * (k + 2) / d * (lowS n d k).2) (gt0 _ _) (fun hc => ?_) (fun hc => ?_)
    · conv => whnf
      rw [show IntKind.i64.wrap (Int.ofNat (k + 2) + 1) = Int.ofNat (k + 3) from wrapN (m := k + 3) (by omega)]
      refine ⟨k + 1, by omega, by omega, ⟨rfl, rfl, rfl, rfl, by repeat' (first | exact trivial | exact rfl | exact Nat.zero_le _ | exact Nat.le_of_ble_eq_true rfl | apply And.intro), ?_⟩⟩
      have e : lowS n d (k + 1) = (n * (k + 2) / d, k + 2) := by rw [lowS, if_pos hc]
      rw [e]
      repeat' (first | exact trivial | exact rfl | exact Nat.zero_le _ | exact Nat.le_of_ble_eq_true rfl | apply And.intro)
    · conv => whnf
      rw [show IntKind.i64.wrap (Int.ofNat (k + 2) + 1) = Int.ofNat (k + 3) from wrapN (m := k + 3) (by omega)]
      refine ⟨k + 1, by omega, by omega, ⟨rfl, rfl, rfl, rfl, by repeat' (first | exact trivial | exact rfl | exact Nat.zero_le _ | exact Nat.le_of_ble_eq_true rfl | apply And.intro), ?_⟩⟩
      have e : lowS n d (k + 1) = lowS n d k := by rw [lowS, if_neg hc]
      rw [e]
      repeat' (first | exact trivial | exact rfl | exact Nat.zero_le _ | exact Nat.le_of_ble_eq_true rfl | apply And.intro)
  · conv => whnf
    have e : m - 1 = k := by omega
    rw [e]
    exact ⟨_, rfl, Wk.refl _⟩
/-- The least of the fractions that are not less, with denominators up to k + 1. -/
def highS (n d : Nat) : Nat → Nat × Nat
  | 0 => ((n + d - 1) / d, 1)
  | k + 1 => if (n * (k + 2) + d - 1) / d * (highS n d k).2 < (highS n d k).1 * (k + 2) then ((n * (k + 2) + d - 1) / d, k + 2) else highS n d k

theorem upQ_le {a d : Nat} (hd : 1 ≤ d) : (a + d - 1) / d ≤ a + 1 := by
  have h1 : a + d - 1 ≤ (a + 1) * d := by
    rw [Nat.add_mul, Nat.one_mul]
    have := Nat.le_mul_of_pos_right a (show 0 < d by omega)
    omega
  calc (a + d - 1) / d ≤ (a + 1) * d / d := Nat.div_le_div_right h1
    _ = a + 1 := Nat.mul_div_cancel _ (by omega)

theorem highS_le (n d : Nat) (hd : 1 ≤ d) : ∀ k, 1 ≤ (highS n d k).2 ∧ (highS n d k).2 ≤ k + 1 ∧ (highS n d k).1 ≤ n * (k + 1) + 1
  | 0 => ⟨Nat.le_refl _, Nat.le_refl _, by simp only [highS, Nat.zero_add, Nat.mul_one]; exact upQ_le hd⟩
  | k + 1 => by
    have ih := highS_le n d hd k
    unfold highS
    split
    · exact ⟨by simp, Nat.le_refl _, upQ_le hd⟩
    · exact ⟨ih.1, by omega, Nat.le_trans ih.2.2 (Nat.add_le_add_right (Nat.mul_le_mul_left _ (by omega)) 1)⟩

theorem above_pure (n d m : Nat) (hn : n ≤ 50000) (hd : 1 ≤ d) (hd' : d ≤ 50000) (hm : 1 ≤ m) (hm' : m ≤ 50000) :
    Pure prog 93 [.agg [nv n, nv d, nv m]] (fv (Int.ofNat (highS n d (m - 1)).1) (Int.ofNat (highS n d (m - 1)).2)) := by
  refine pure_sym hE rfl ⟨⟨trivial, trivial, trivial, trivial⟩, trivial⟩ ⟨trivial, trivial, trivial⟩ fun S q hS hq hE => ?_
  conv => whnf
  refine bool_true (ne0 hd) ?_
  conv => whnf
  rw [show IntKind.i64.wrap (Int.ofNat n + Int.ofNat d) = Int.ofNat (n + d) from wrapN (m := n + d) (by omega), wrapSub1 (m := n + d) (by omega) (by omega),
    show IntKind.i64.wrap ((Int.ofNat (n + d - 1)).tdiv (Int.ofNat d)) = Int.ofNat ((n + d - 1) / d) from wrapN (m := (n + d - 1) / d) (by have := Nat.div_le_self (n + d - 1) d; omega)]
  refine sym_loop hE hS (A := Nat) [1, 2, 3] (fun k => [(4, nv (k + 2))]) (fun k => [(2, cell2 (Int.ofNat (highS n d k).1) (Int.ofNat (highS n d k).2) 23)]) (fun k => k + 1 ≤ m) (fun k => m - k) 0 rfl rfl
    ⟨rfl, rfl, rfl, rfl, by repeat' (first | exact trivial | exact rfl | exact Nat.zero_le _ | exact Nat.le_of_ble_eq_true rfl | apply And.intro),
      by repeat' (first | exact trivial | exact rfl | exact Nat.zero_le _ | exact Nat.le_of_ble_eq_true rfl | apply And.intro)⟩ hm ?_
  intro k hk
  have hl := highS_le n d hd k
  have b1 : n * (k + 2) ≤ 50000 * 50001 := Nat.mul_le_mul hn (by omega)
  have b2 : (n * (k + 2) + d - 1) / d ≤ n * (k + 2) + 1 := upQ_le hd
  have b3 : (n * (k + 2) + d - 1) / d * (highS n d k).2 ≤ (50000 * 50001 + 1) * 50001 := Nat.mul_le_mul (by omega) (by omega)
  have b4 : (highS n d k).1 * (k + 2) ≤ (50000 * 50001 + 1) * 50001 := Nat.mul_le_mul (Nat.le_trans hl.2.2 (Nat.add_le_add_right (Nat.mul_le_mul hn (by omega)) 1)) (by omega)
  conv => whnf
  refine bool_if (p := k + 2 ≤ m) (leN _ _) (fun hlt => ?_) (fun hlt => ?_)
  · conv => whnf
    refine bool_true (ne0 hd) ?_
    conv => whnf
    rw [show IntKind.i64.wrap (Int.ofNat n * Int.ofNat (k + 2)) = Int.ofNat (n * (k + 2)) from wrapN (m := n * (k + 2)) (by omega),
      show IntKind.i64.wrap (Int.ofNat (n * (k + 2)) + Int.ofNat d) = Int.ofNat (n * (k + 2) + d) from wrapN (m := n * (k + 2) + d) (by omega), wrapSub1 (m := n * (k + 2) + d) (by omega) (by omega),
      show IntKind.i64.wrap ((Int.ofNat (n * (k + 2) + d - 1)).tdiv (Int.ofNat d)) = Int.ofNat ((n * (k + 2) + d - 1) / d) from wrapN (m := (n * (k + 2) + d - 1) / d) (by omega)]
    refine sym_pure hS (compare_pure ((n * (k + 2) + d - 1) / d) (k + 2) (highS n d k).1 (highS n d k).2 (by omega) (by omega)) ?_
    conv => whnf
    refine bool_if (p := (n * (k + 2) + d - 1) / d * (highS n d k).2 < (highS n d k).1 * (k + 2)) (lt0 _ _) (fun hc => ?_) (fun hc => ?_)
    · conv => whnf
      rw [show IntKind.i64.wrap (Int.ofNat (k + 2) + 1) = Int.ofNat (k + 3) from wrapN (m := k + 3) (by omega)]
      refine ⟨k + 1, by omega, by omega, ⟨rfl, rfl, rfl, rfl, by repeat' (first | exact trivial | exact rfl | exact Nat.zero_le _ | exact Nat.le_of_ble_eq_true rfl | apply And.intro), ?_⟩⟩
      have e : highS n d (k + 1) = ((n * (k + 2) + d - 1) / d, k + 2) := by rw [highS, if_pos hc]
      rw [e]
      repeat' (first | exact trivial | exact rfl | exact Nat.zero_le _ | exact Nat.le_of_ble_eq_true rfl | apply And.intro)
    · conv => whnf
      rw [show IntKind.i64.wrap (Int.ofNat (k + 2) + 1) = Int.ofNat (k + 3) from wrapN (m := k + 3) (by omega)]
      refine ⟨k + 1, by omega, by omega, ⟨rfl, rfl, rfl, rfl, by repeat' (first | exact trivial | exact rfl | exact Nat.zero_le _ | exact Nat.le_of_ble_eq_true rfl | apply And.intro), ?_⟩⟩
      have e : highS n d (k + 1) = highS n d k := by rw [highS, if_neg hc]
      rw [e]
      repeat' (first | exact trivial | exact rfl | exact Nat.zero_le _ | exact Nat.le_of_ble_eq_true rfl | apply And.intro)
  · conv => whnf
    have e : m - 1 = k := by omega
    rw [e]
    exact ⟨_, rfl, Wk.refl _⟩
end Go.Abs.Seat
