/-
  The law TrainBests.
-/
import Derived.Test.YtgojpjbbahljeaaGreatDoorC6
/-! The law TrainBests. -/
namespace Go.Abs.Seat
open Go Go.Abs Go.Proofs.Tryz
set_option maxRecDepth 100000
set_option maxHeartbeats 4000000
attribute [local irreducible] IntKind.wrap pEq

theorem trainBests_no (hk : Pure prog 19 [] (.bool true)) (n d m : Int) (h : ¬ (isF n d ∧ 1 ≤ m ∧ m ≤ 50000)) : Pure prog 3 [fv n d, iv m] (.bool true) := by
  refine pure_sym hE rfl ⟨⟨trivial, trivial, trivial⟩, trivial, trivial⟩ trivial fun S q hS hq hE => ?_
  conv => whnf
  refine sym_pure hS (best_no n d m h) ?_
  conv => whnf
  refine sym_pure hS (around_no n d m h) ?_
  conv => whnf
  refine sym_pure hS (rFraction_pure n d) ?_
  by_cases h1 : isF n d
  · rw [decide_eq_true h1]
    conv => whnf
    refine sym_pure hS (rBound_pure m) ?_
    rw [decide_eq_false (fun e => h ⟨h1, e⟩)]
    conv => whnf
    refine sym_eq hq true (eqFr_same _ 0 0) ?_
    conv => whnf
    refine sym_eq hq true (eqFr_same _ 0 0) ?_
    conv => whnf
    refine sym_eq hq true (eqFr_same _ 0 0) ?_
    conv => whnf
    refine sym_pure hS hk ?_
    conv => whnf
    exact ⟨_, rfl, Wk.refl _⟩
  · rw [decide_eq_false h1]
    conv => whnf
    refine sym_eq hq true (eqFr_same _ 0 0) ?_
    conv => whnf
    refine sym_eq hq true (eqFr_same _ 0 0) ?_
    conv => whnf
    refine sym_eq hq true (eqFr_same _ 0 0) ?_
    conv => whnf
    refine sym_pure hS hk ?_
    conv => whnf
    exact ⟨_, rfl, Wk.refl _⟩
theorem trainBests_yes (hk : Pure prog 19 [] (.bool true)) (n d m : Nat) (hn : n ≤ 50000) (hd : 1 ≤ d) (hd' : d ≤ 50000) (hm : 1 ≤ m) (hm' : m ≤ 50000) :
    Pure prog 3 [fv (Int.ofNat n) (Int.ofNat d), nv m] (.bool true) := by
  refine pure_sym hE rfl ⟨⟨trivial, trivial, trivial⟩, trivial, trivial⟩ trivial fun S q hS hq hE => ?_
  have h1 : isF (Int.ofNat n) (Int.ofNat d) := by unfold isF; simp only [Int.ofNat_eq_natCast]; omega
  have h2 : 1 ≤ Int.ofNat m ∧ Int.ofNat m ≤ 50000 := by simp only [Int.ofNat_eq_natCast]; omega
  conv => whnf
  refine sym_pure hS (best_pure n d m hn hd hd' hm hm') ?_
  conv => whnf
  refine sym_pure hS (around_pure n d m hn hd hd' hm hm') ?_
  conv => whnf
  refine sym_pure hS (rFraction_pure _ _) ?_
  rw [decide_eq_true h1]
  conv => whnf
  refine sym_pure hS (rBound_pure _) ?_
  rw [decide_eq_true h2]
  conv => whnf
  refine sym_pure hS (rAround_pure n d m hn hd hd' hm hm') ?_
  conv => whnf
  refine sym_pure hS (rBest_pure n d m hn hd hd' hm hm') ?_
  conv => whnf
  refine sym_eq hq true (eqFr_same _ _ _) ?_
  conv => whnf
  refine sym_eq hq true (eqFr_same _ _ _) ?_
  conv => whnf
  refine sym_eq hq true (eqFr_same _ _ _) ?_
  conv => whnf
  refine sym_pure hS hk ?_
  conv => whnf
  refine sym_drawn hS (by kernel_rfl) ?_
  conv => whnf
  exact ⟨_, rfl, Wk.refl _⟩

/-- The law holds of every input. -/
theorem trainBests (hk : Pure prog 19 [] (.bool true)) (n d m : Int) : Pure prog 3 [fv n d, iv m] (.bool true) := by
  by_cases h : isF n d ∧ 1 ≤ m ∧ m ≤ 50000
  · have hf := h.1
    unfold isF at hf
    have e1 : n = Int.ofNat n.toNat := by show n = ((n.toNat : Nat) : Int); omega
    have e2 : d = Int.ofNat d.toNat := by show d = ((d.toNat : Nat) : Int); omega
    have e3 : m = Int.ofNat m.toNat := by show m = ((m.toNat : Nat) : Int); omega
    rw [e1, e2, e3]
    exact trainBests_yes hk _ _ _ (by omega) (by omega) (by omega) (by omega) (by omega)
  · exact trainBests_no hk n d m h
end Go.Abs.Seat
