/-
  The document's best fraction; the first law.
-/
import Derived.Test.YtgojpjbbahljeaaGreatDoorC5
/-! The document's best fraction; the first law. -/
namespace Go.Abs.Seat
open Go Go.Abs Go.Proofs.Tryz
set_option maxRecDepth 100000
set_option maxHeartbeats 4000000
attribute [local irreducible] IntKind.wrap pEq

/-- How far two numbers are apart. -/
def gapN (a b : Nat) : Nat := (a - b) + (b - a)

theorem maxI_gap {a b : Nat} (h1 : a < 9223372036854775808) (h2 : b < 9223372036854775808) :
    maxI (IntKind.i64.wrap (Int.ofNat a - Int.ofNat b)) (IntKind.i64.wrap (Int.ofNat b - Int.ofNat a)) = Int.ofNat (gapN a b) := by
  rw [wrapI (by show _ ≤ (a : Int) - (b : Int); omega) (by show (a : Int) - (b : Int) < _; omega), wrapI (by show _ ≤ (b : Int) - (a : Int); omega) (by show (b : Int) - (a : Int) < _; omega)]
  unfold maxI gapN
  show (if (b : Int) - (a : Int) > (a : Int) - (b : Int) then (b : Int) - (a : Int) else (a : Int) - (b : Int)) = (((a - b) + (b - a) : Nat) : Int)
  split <;> omega

theorem rAway_pure (n d a b : Nat) (h1 : a * d < 4611686018427387904) (h2 : n * b < 4611686018427387904) :
    Pure prog 72 [fv (Int.ofNat n) (Int.ofNat d), fv (Int.ofNat a) (Int.ofNat b)] (nv (gapN (a * d) (n * b))) := by
  refine pure_sym hE rfl ⟨⟨trivial, trivial, trivial⟩, ⟨trivial, trivial, trivial⟩, trivial⟩ trivial fun S q hS hq hE => ?_
  conv => whnf
  refine ⟨_, rfl, ?_⟩
  rw [mulN (a := a) (b := d) (by omega), mulN (a := n) (b := b) (by omega), maxI_gap (by omega) (by omega)]
  exact Wk.refl _

theorem rBest_pure (n d m : Nat) (hn : n ≤ 50000) (hd : 1 ≤ d) (hd' : d ≤ 50000) (hm : 1 ≤ m) (hm' : m ≤ 50000) :
    Pure prog 21 [fv (Int.ofNat n) (Int.ofNat d), nv m] (.agg [nv (bestS n d (m - 1)).1, nv (bestS n d (m - 1)).2]) := by
  refine pure_sym hE rfl ⟨⟨trivial, trivial, trivial⟩, trivial, trivial⟩ ⟨trivial, trivial, trivial⟩ fun S q hS hq hE => ?_
  have hb := bds n d (m - 1) hn hd hd' (by omega)
  have around := rAround_pure n d m hn hd hd' hm hm'
  have eb : bestS n d (m - 1) = if nearS n d (lowS n d (m - 1)) (highS n d (m - 1)) then lowS n d (m - 1) else highS n d (m - 1) := rfl
  generalize lowS n d (m - 1) = L at *
  generalize highS n d (m - 1) = H at *
  obtain ⟨l1, l2⟩ := L
  obtain ⟨h1, h2⟩ := H
  have q1 := hb.l
  have q2 := hb.h
  have q3 := hb.b1
  have q4 := hb.b2
  have q5 := hb.b3
  have q6 := hb.b4
  simp only at q1 q2 q3 q4 q5 q6
  dsimp only at around
  have g1 : gapN (l1 * d) (n * l2) = n * l2 - l1 * d := by unfold gapN; omega
  have g2 : gapN (h1 * d) (n * h2) = h1 * d - n * h2 := by unfold gapN; omega
  conv => whnf
  refine sym_pure hS around ?_
  conv => whnf
  refine sym_pure hS (rAway_pure n d l1 l2 (by omega) (by omega)) ?_
  rw [g1]
  conv => whnf
  rw [mulN (a := n * l2 - l1 * d) (b := h2) (by omega)]
  refine sym_pure hS (rAway_pure n d h1 h2 (by omega) (by omega)) ?_
  rw [g2]
  conv => whnf
  refine sym_drawn hS (by kernel_rfl) ?_
  rw [mulN (a := h1 * d - n * h2) (b := l2) (by omega)]
  conv => whnf
  by_cases p1 : (n * l2 - l1 * d) * h2 < (h1 * d - n * h2) * l2
  · rw [ltN_t p1]
    conv => whnf
    rw [if_pos (.inl p1)] at eb
    rw [eb]
    exact ⟨_, rfl, Wk.refl _⟩
  · rw [ltN_f p1]
    conv => whnf
    by_cases p2 : (n * l2 - l1 * d) * h2 = (h1 * d - n * h2) * l2
    · rw [eqN_t p2]
      conv => whnf
      by_cases p3 : l2 ≤ h2
      · rw [leN_t p3]
        conv => whnf
        rw [if_pos (.inr ⟨p2, p3⟩)] at eb
        rw [eb]
        exact ⟨_, rfl, Wk.refl _⟩
      · rw [leN_f p3]
        conv => whnf
        rw [if_neg (fun e => e.elim p1 fun e => p3 e.2)] at eb
        rw [eb]
        exact ⟨_, rfl, Wk.refl _⟩
    · rw [eqN_f p2]
      conv => whnf
      rw [if_neg (fun e => e.elim p1 fun e => p2 e.1)] at eb
      rw [eb]
      exact ⟨_, rfl, Wk.refl _⟩
end Go.Abs.Seat
