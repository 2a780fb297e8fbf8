/-
  The fraction of a chain: the document's.
-/
import Derived.Test.YtpjclnoehlflcaaGreatDoorT17
/-! The fraction of a chain: the document's. -/
namespace Go.Abs.Seat
open Go Go.Abs Go.Proofs.Tryz
set_option maxRecDepth 100000
set_option maxHeartbeats 4000000
attribute [local irreducible] IntKind.wrap pEq

theorem foS_pos (l : List Nat) (hp : ∀ i, 1 ≤ i → i < l.length → 1 ≤ l.getD i 0) : ∀ (s i : Nat), 1 ≤ i → i + s = l.length → 1 ≤ (foS (l.drop i)).1
  | 0, i, _, h => by rw [List.drop_eq_nil_of_le (by omega)]; exact Nat.le_refl 1
  | s + 1, i, h1, h => by
    rw [foS_drop l (by omega)]
    have h2 := foS_pos l hp s (i + 1) (by omega) (by omega)
    have h3 : 1 ≤ l.getD i 0 * (foS (l.drop (i + 1))).1 := Nat.mul_pos (hp i h1 (by omega)) h2
    simp only
    omega

theorem fo_last (l : List Nat) {k : Nat} (h : l.length = k + 1) : foS (l.drop k) = (l.getD k 0, 1) := by
  rw [foS_drop l (by omega), List.drop_eq_nil_of_le (by omega)]
  simp [foS]

theorem nth_last {l : List Nat} {k : Nat} (h : l.length = k + 1) {z : List Int} (hz : z = zl l) : nth (ivs z) (((z.length : Int) - 1).toNat * 1) = some (nv (l.getD k 0)) := by
  subst hz
  have h2 := nth_zl (l := l) (k := k) (by omega)
  rw [show (((zl l).length : Int) - 1) = (((k + 1 : Nat) : Int) - 1) by rw [zl_len, h]]
  exact h2

/-- The facts of a chain, as numbers. -/
structure ChN (l : List Nat) : Prop where
  hx : ∀ i, i < l.length → l.getD i 0 ≤ 50000
  hp : ∀ i, 1 ≤ i → i < l.length → 1 ≤ l.getD i 0
  h1 : 1 ≤ l.length ∧ l.length ≤ 24
theorem ChN.of {l : List Nat} (hc : chOk (zl l)) : ChN l := by
  have hz := zl_len l
  refine ⟨fun i hi => ?_, fun i h1 hi => ?_, by have := hc.2; omega⟩
  · have := (hc.1 i (by omega)).2
    rw [zl_gi l hi] at this
    exact Int.ofNat_le.1 this
  · have := (hc.1 i (by omega)).1
    rw [zl_gi l hi, if_neg (by omega)] at this
    exact Int.ofNat_le.1 this

end Go.Abs.Seat
