/-
  Greatest common divisors; reducing.
-/
import Derived.Test.YtgojpjbbahljeaaGreatDoorC6
/-! Greatest common divisors; reducing. -/
namespace Go.Abs.Seat
open Go Go.Abs Go.Proofs.Tryz
set_option maxRecDepth 100000
set_option maxHeartbeats 4000000
attribute [local irreducible] IntKind.wrap pEq

theorem pos0 (a : Nat) : decide (Int.ofNat a > 0) = true ↔ 0 < a := by
  rw [decide_eq_true_eq]
  show (0 : Int) < (a : Int) ↔ _
  omega

theorem remN {a b : Nat} (h : a < 9223372036854775808) : IntKind.i64.wrap ((Int.ofNat a).tmod (Int.ofNat b)) = Int.ofNat (a % b) := by
  have : (Int.ofNat a).tmod (Int.ofNat b) = Int.ofNat (a % b) := rfl
  rw [this]
  exact wrapN (Nat.lt_of_le_of_lt (Nat.mod_le a b) h)

theorem gcd_pure (a b : Nat) (ha : a < 9223372036854775808) (hb : b < 9223372036854775808) :
    Pure prog 73 [nv a, nv b] (nv (Nat.gcd a b)) := by
  refine pure_sym hE rfl ⟨trivial, trivial, trivial⟩ trivial fun S q hS hq hE => ?_
  conv => whnf
  refine sym_loop hE hS (A := Nat × Nat) [4] (fun (x, y) => [(0, nv x), (1, nv y)]) (fun _ => []) (fun p => Nat.gcd p.1 p.2 = Nat.gcd a b ∧ p.1 < 9223372036854775808 ∧ p.2 < 9223372036854775808) (fun p => p.2) (a, b) rfl rfl
    ⟨rfl, rfl, rfl, rfl, by repeat' (first | exact trivial | exact rfl | exact Nat.zero_le _ | exact Nat.le_of_ble_eq_true rfl | apply And.intro),
      by repeat' (first | exact trivial | exact rfl | exact Nat.zero_le _ | exact Nat.le_of_ble_eq_true rfl | apply And.intro)⟩ ⟨rfl, ha, hb⟩ ?_
  rintro ⟨x, y⟩ ⟨hg, hx, hy⟩
  simp only at hg hx hy
  conv => whnf
  refine bool_if (p := 0 < y) (pos0 _) (fun hp => ?_) (fun hp => ?_)
  · conv => whnf
    refine bool_true (ne0 hp) ?_
    conv => whnf
    refine sym_drawn hS (by kernel_rfl) ?_
    conv => whnf
    refine ⟨(y, x % y), ⟨by rw [← hg]; show Nat.gcd y (x % y) = Nat.gcd x y; rw [Nat.gcd_comm x y, Nat.gcd_rec y x, Nat.gcd_comm], hy, Nat.lt_trans (Nat.mod_lt _ hp) hy⟩, Nat.mod_lt _ hp, ⟨rfl, rfl, rfl, rfl, by repeat' (first | exact trivial | exact rfl | exact Nat.zero_le _ | exact Nat.le_of_ble_eq_true rfl | apply And.intro), ?_⟩⟩
    repeat' (first | exact trivial | exact rfl | exact Nat.zero_le _ | exact Nat.le_of_ble_eq_true rfl | apply And.intro)
  · conv => whnf
    have hy0 : y = 0 := by omega
    subst hy0
    rw [Nat.gcd_zero_right] at hg
    subst hg
    exact ⟨_, rfl, Wk.refl _⟩
end Go.Abs.Seat
