/-
  Chains as fractions.
-/
import Derived.Test.YtpjclnoehlflcaaGreatDoorT10
import Derived.Test.YtpjclnoehlflcaaGreatDoorMC
/-! Chains as fractions. -/
namespace Go.Abs.Seat
open Go Go.Abs Go.Proofs.Tryz
set_option maxRecDepth 100000
set_option maxHeartbeats 4000000
attribute [local irreducible] IntKind.wrap pEq

/-- A chain as a fraction, not reduced. -/
def foS : List Nat → Nat × Nat
  | [] => (1, 0)
  | x :: r => (x * (foS r).1 + (foS r).2, (foS r).1)

def zl (l : List Nat) : List Int := l.map Int.ofNat
theorem zl_len (l : List Nat) : (zl l).length = l.length := List.length_map _
theorem zl_gi (l : List Nat) {i : Nat} (h : i < l.length) : gi (zl l) i = Int.ofNat (l.getD i 0) := by
  simp [gi, zl, List.getD, h]

/-- The number of each ending is no greater than can be. -/
def foOk (l : List Nat) : Prop := ∀ i, i < l.length → (foS (l.drop i)).1 ≤ 50000

/-- A chain. -/
def chAt (l : List Int) (i : Nat) : Prop := (if i = 0 then 0 else 1) ≤ gi l i ∧ gi l i ≤ 50000
def chOk (l : List Int) : Prop := (∀ i, i < l.length → chAt l i) ∧ 1 ≤ l.length ∧ l.length ≤ 24

theorem minI_1 (i : Nat) : minI (Int.ofNat i) 1 = if i = 0 then 0 else 1 := by
  unfold minI
  show (if (1 : Int) < (i : Int) then (1 : Int) else (i : Int)) = _
  split <;> split <;> omega

theorem foS_drop (l : List Nat) {i : Nat} (h : i < l.length) : foS (l.drop i) = (l.getD i 0 * (foS (l.drop (i + 1))).1 + (foS (l.drop (i + 1))).2, (foS (l.drop (i + 1))).1) := by
  rw [List.drop_eq_getElem_cons h, foS]
  simp [List.getD, h]

theorem foS_den (l : List Nat) (i : Nat) (ho : ∀ j, i ≤ j → j < l.length → (foS (l.drop j)).1 ≤ 50000) : (foS (l.drop i)).2 ≤ 50000 := by
  by_cases h : i < l.length
  · rw [foS_drop l h]
    by_cases h2 : i + 1 < l.length
    · exact ho (i + 1) (by omega) h2
    · rw [List.drop_eq_nil_of_le (by omega)]; show 1 ≤ 50000; omega
  · rw [List.drop_eq_nil_of_le (by omega)]; decide

/-- One number more, from the chain's end. -/
theorem fo_step (l : List Nat) (hx : ∀ i, i < l.length → l.getD i 0 ≤ 50000) {k n d : Nat} (hk : k + 1 ≤ l.length) (he : foS (l.drop (k + 1)) = (n, d)) (ho : ∀ j, k + 1 ≤ j → j < l.length → (foS (l.drop j)).1 ≤ 50000) :
    foS (l.drop k) = (l.getD k 0 * n + d, n) ∧ n ≤ 50000 ∧ d ≤ 50000 ∧ l.getD k 0 * n ≤ 2500000000 := by
  have h1 := foS_drop l (i := k) (by omega)
  rw [he] at h1
  have h2 := foS_den l (k + 1) ho
  rw [he] at h2
  have h3 : n ≤ 50000 := by
    by_cases h : k + 1 < l.length
    · have := ho (k + 1) (Nat.le_refl _) h
      rw [he] at this; exact this
    · rw [List.drop_eq_nil_of_le (by omega)] at he
      have : (1, 0) = (n, d) := he
      injection this
      omega
  exact ⟨h1, h3, h2, Nat.mul_le_mul (hx k (by omega)) h3⟩

theorem nth_zl {l : List Nat} {k : Nat} (h : k < l.length) : nth (ivs (zl l)) ((((k + 1 : Nat) : Int) - 1).toNat * 1) = some (nv (l.getD k 0)) := by
  rw [show (((k + 1 : Nat) : Int) - 1).toNat = k by omega, nth_ivs1 (by rw [zl_len]; exact h), zl_gi l h]

theorem maxN (a b : Nat) : maxI (Int.ofNat a) (Int.ofNat b) = Int.ofNat (max a b) := by
  unfold maxI
  show (if ((b : Nat) : Int) > (a : Int) then (b : Int) else (a : Int)) = ((max a b : Nat) : Int)
  split <;> omega

end Go.Abs.Seat
