/-
  The best fraction.
-/
import Derived.Test.YtgojpjbbahljeaaGreatDoorC2
/-! The best fraction. -/
namespace Go.Abs.Seat
open Go Go.Abs Go.Proofs.Tryz
set_option maxRecDepth 100000
set_option maxHeartbeats 4000000
attribute [local irreducible] IntKind.wrap pEq

theorem neighbors_pure (n d m : Nat) (hn : n ≤ 50000) (hd : 1 ≤ d) (hd' : d ≤ 50000) (hm : 1 ≤ m) (hm' : m ≤ 50000) :
    Pure prog 59 [.agg [nv n, nv d, nv m]] (.agg [nv (lowS n d (m - 1)).1, nv (lowS n d (m - 1)).2, nv (highS n d (m - 1)).1, nv (highS n d (m - 1)).2]) := by
  refine pure_sym hE rfl ⟨⟨trivial, trivial, trivial, trivial⟩, trivial⟩ ⟨trivial, trivial, trivial, trivial, trivial⟩ fun S q hS hq hE => ?_
  conv => whnf
  refine sym_unroll hE hS ?_
  conv => whnf
  refine sym_pure hS (below_pure n d m hn hd hd' hm hm') ?_
  conv => whnf
  rw [show IntKind.i64.wrap (0 + 1) = 1 from wrapI (by decide) (by decide)]
  refine sym_unroll hE hS ?_
  conv => whnf
  refine sym_pure hS (above_pure n d m hn hd hd' hm hm') ?_
  conv => whnf
  rw [show IntKind.i64.wrap (1 + 1) = 2 from wrapI (by decide) (by decide)]
  refine sym_unroll hE hS ?_
  conv => whnf
  exact ⟨_, rfl, Wk.refl _⟩

theorem around_no (n d m : Int) (h : ¬ (isF n d ∧ 1 ≤ m ∧ m ≤ 50000)) : Pure prog 16 [fv n d, iv m] (.tup [fv 0 0, fv 0 0, iv 2]) := by
  refine pure_sym hE rfl ⟨⟨trivial, trivial, trivial⟩, trivial, trivial⟩ ⟨⟨trivial, trivial, trivial⟩, ⟨trivial, trivial, trivial⟩, trivial, trivial⟩ fun S q hS hq hE => ?_
  conv => whnf
  refine sym_pure hS (isFraction_pure n d) ?_
  by_cases h1 : isF n d
  · rw [decide_eq_true h1]
    conv => whnf
    refine sym_pure hS (in_pure m 1 50000) ?_
    rw [decide_eq_false (fun e => h ⟨h1, e⟩)]
    conv => whnf
    exact ⟨_, rfl, Wk.refl _⟩
  · rw [decide_eq_false h1]
    conv => whnf
    exact ⟨_, rfl, Wk.refl _⟩

theorem around_pure (n d m : Nat) (hn : n ≤ 50000) (hd : 1 ≤ d) (hd' : d ≤ 50000) (hm : 1 ≤ m) (hm' : m ≤ 50000) :
    Pure prog 16 [fv (Int.ofNat n) (Int.ofNat d), nv m] (.tup [.agg [nv (lowS n d (m - 1)).1, nv (lowS n d (m - 1)).2], .agg [nv (highS n d (m - 1)).1, nv (highS n d (m - 1)).2], iv 0]) := by
  refine pure_sym hE rfl ⟨⟨trivial, trivial, trivial⟩, trivial, trivial⟩ ⟨⟨trivial, trivial, trivial⟩, ⟨trivial, trivial, trivial⟩, trivial, trivial⟩ fun S q hS hq hE => ?_
  have h1 : isF (Int.ofNat n) (Int.ofNat d) := by unfold isF; simp only [Int.ofNat_eq_natCast]; omega
  have h2 : 1 ≤ Int.ofNat m ∧ Int.ofNat m ≤ 50000 := by simp only [Int.ofNat_eq_natCast]; omega
  conv => whnf
  refine sym_pure hS (isFraction_pure _ _) ?_
  rw [decide_eq_true h1]
  conv => whnf
  refine sym_pure hS (in_pure _ 1 50000) ?_
  rw [decide_eq_true h2]
  conv => whnf
  refine sym_pure hS (neighbors_pure n d m hn hd hd' hm hm') ?_
  conv => whnf
  refine sym_drawn hS (by kernel_rfl) ?_
  conv => whnf
  exact ⟨_, rfl, Wk.refl _⟩
end Go.Abs.Seat
