/-
  Teeth, pairs of wheels, products.
  Which lists of pairs are trains.
  What a train turns its hand by.
  Lists of pairs as arguments: trains, and what is none.
  Which one of two trains is nearer.
-/
import Derived.Test.YtpjclnoehlflcaaGreatDoorMG
/-! Teeth, pairs of wheels, products. -/
namespace Go.Abs.Seat
open Go Go.Abs Go.Proofs.Tryz
set_option maxRecDepth 100000
set_option maxHeartbeats 4000000
attribute [local irreducible] IntKind.wrap pEq

/-- A number of teeth. -/
abbrev tth (a : Int) : Prop := 4 ≤ a ∧ a ≤ 60

theorem isTeeth_pure (a : Int) : Pure prog 123 [iv a] (.bool (decide (tth a))) := by
  refine pure_sym hE rfl ⟨trivial, trivial⟩ trivial fun S q pc hS hq hC hE => ?_
  conv => whnf
  refine sym_pure hC (in_pure a 4 60) ?_
  conv => whnf
  exact ⟨_, rfl, Wk.refl _⟩
theorem rTeeth_pure (a : Int) : Pure prog 76 [iv a] (.bool (decide (tth a))) := by
  refine pure_sym hE rfl ⟨trivial, trivial⟩ trivial fun S q pc hS hq hC hE => ?_
  conv => whnf
  refine sym_pure hC (rin_pure a 4 60) ?_
  conv => whnf
  exact ⟨_, rfl, Wk.refl _⟩

/-- A pair is bad if one of its wheels is. -/
theorem bad_pure (a b : Int) : Pure prog 122 [fv a b] (.bool (!(decide (tth a ∧ tth b)))) := by
  refine pure_sym hE rfl ⟨⟨trivial, trivial, trivial⟩, trivial⟩ trivial fun S q pc hS hq hC hE => ?_
  conv => whnf
  refine sym_pure hC (isTeeth_pure a) ?_
  by_cases h : tth a
  · rw [decide_eq_true h]
    conv => whnf
    refine sym_pure hC (isTeeth_pure b) ?_
    by_cases h2 : tth b
    · rw [decide_eq_true h2]
      conv => whnf
      exact ⟨_, rfl, wkb (by rw [decide_eq_true (show tth a ∧ tth b from ⟨h, h2⟩)])⟩
    · rw [decide_eq_false h2]
      conv => whnf
      exact ⟨_, rfl, wkb (by rw [decide_eq_false (fun k : tth a ∧ tth b => h2 k.2)])⟩
  · rw [decide_eq_false h]
    conv => whnf
    exact ⟨_, rfl, wkb (by rw [decide_eq_false (fun k : tth a ∧ tth b => h k.1)]; rfl)⟩

theorem reduced_pure (a b : Nat) (ha : a < 9223372036854775808) (hb : b < 9223372036854775808) (h1 : 1 ≤ b) :
    Pure prog 126 [nv a, nv b] (fv (Int.ofNat (a / Nat.gcd a b)) (Int.ofNat (b / Nat.gcd a b))) := by
  refine pure_sym hE rfl ⟨trivial, trivial, trivial⟩ ⟨trivial, trivial, trivial⟩ fun S q pc hS hq hC hE => ?_
  conv => whnf
  refine sym_pure hC (gcd_pure a b ha hb) ?_
  have hg : 1 ≤ Nat.gcd a b := gcd_pos_r h1
  generalize Nat.gcd a b = g at *
  conv => whnf
  refine bool_true (ne0 hg) ?_
  conv => whnf
  refine bool_true (ne0 hg) ?_
  conv => whnf
  refine sym_drawn hS (by kernel_rfl) ?_
  conv => whnf
  rw [quoN ha, quoN hb]
  exact ⟨_, rfl, Wk.refl _⟩

end Go.Abs.Seat

/-! Which lists of pairs are trains. -/
namespace Go.Abs.Seat
open Go Go.Abs Go.Proofs.Tryz
set_option maxRecDepth 100000
set_option maxHeartbeats 4000000
attribute [local irreducible] IntKind.wrap pEq

/-- The place of the first bad pair. -/
def bix : List (Int × Int) → Int → Int
  | [], _ => -1
  | p :: r, i => if tth p.1 ∧ tth p.2 then bix r (i + 1) else i
/-- All are good. -/
def gd : List (Int × Int) → Prop
  | [] => True
  | p :: r => (tth p.1 ∧ tth p.2) ∧ gd r
instance gdDec : (l : List (Int × Int)) → Decidable (gd l)
  | [] => .isTrue trivial
  | p :: r => have := gdDec r; inferInstanceAs (Decidable ((tth p.1 ∧ tth p.2) ∧ gd r))
theorem bix_t {a b : Int} {r : List (Int × Int)} {i : Int} (h : tth a ∧ tth b) : bix ((a, b) :: r) i = bix r (i + 1) := if_pos h
theorem bix_f {a b : Int} {r : List (Int × Int)} {i : Int} (h : ¬ (tth a ∧ tth b)) : bix ((a, b) :: r) i = i := if_neg h
theorem bix_ge : ∀ (l : List (Int × Int)) (i : Int), 0 ≤ i → decide (bix l i ≥ 0) = !(decide (gd l))
  | [], i, _ => rfl
  | p :: r, i, hi => by
    unfold bix
    by_cases h : tth p.1 ∧ tth p.2
    · rw [if_pos h, bix_ge r (i + 1) (by omega)]
      have : gd (p :: r) ↔ gd r := ⟨fun k => k.2, fun k => ⟨h, k⟩⟩
      simp only [this]
    · rw [if_neg h]
      have : ¬ gd (p :: r) := fun k => h k.1
      rw [decide_eq_false this]
      exact decide_eq_true hi

theorem idx1 (a0 b0 : Int) : Pure prog 131 [.lst [iv a0, iv b0] 1 .no, .func (.func 122) [] []] (iv (bix [(a0, b0)] 0)) := by
  refine pure_sym hE rfl ⟨⟨⟨trivial, trivial, trivial⟩, fun _ h => nomatch h⟩, ⟨trivial, trivial⟩, trivial⟩ trivial fun S q pc hS hq hC hE => ?_
  conv => whnf
  refine sym_unroll hE hS ?_
  conv => whnf
  refine sym_pure hC (bad_pure a0 b0) ?_
  by_cases h0 : tth a0 ∧ tth b0
  · rw [decide_eq_true h0]
    conv => whnf
    rw [show IntKind.i64.wrap (0 + 1) = 1 from wrapI (by decide) (by decide)]
    refine sym_unroll hE hS ?_
    conv => whnf
    exact ⟨_, rfl, by rw [show bix [(a0, b0)] 0 = -1 by rw [bix_t h0]; rfl]; exact Wk.refl _⟩
  · rw [decide_eq_false h0]
    conv => whnf
    exact ⟨_, rfl, by rw [show bix [(a0, b0)] 0 = 0 by rw [bix_f h0]]; exact Wk.refl _⟩

theorem has1 (a0 b0 : Int) : Pure prog 87 [.lst [iv a0, iv b0] 1 .no, .func (.func 122) [] []] (.bool (!(decide (gd [(a0, b0)])))) := by
  refine pure_sym hE rfl ⟨⟨⟨trivial, trivial, trivial⟩, fun _ h => nomatch h⟩, ⟨trivial, trivial⟩, trivial⟩ trivial fun S q pc hS hq hC hE => ?_
  conv => whnf
  refine sym_pure hC (idx1 a0 b0) ?_
  conv => whnf
  exact ⟨_, rfl, wkb (bix_ge _ 0 (Int.le_refl 0))⟩

theorem isTrain1 (a0 b0 : Int) : Pure prog 63 [.lst [iv a0, iv b0] 1 .no] (.bool (decide (gd [(a0, b0)]))) := by
  refine pure_sym hE rfl ⟨⟨⟨trivial, trivial, trivial⟩, fun _ h => nomatch h⟩, trivial⟩ trivial fun S q pc hS hq hC hE => ?_
  conv => whnf
  refine sym_pure hC (in_pure 1 1 3) ?_
  conv => whnf
  refine sym_pure hC (has1 a0 b0) ?_
  conv => whnf
  exact ⟨_, rfl, wkb (Bool.not_not _)⟩

theorem idx2 (a0 b0 a1 b1 : Int) : Pure prog 131 [.lst [iv a0, iv b0, iv a1, iv b1] 2 .no, .func (.func 122) [] []] (iv (bix [(a0, b0), (a1, b1)] 0)) := by
  refine pure_sym hE rfl ⟨⟨⟨trivial, trivial, trivial, trivial, trivial⟩, fun _ h => nomatch h⟩, ⟨trivial, trivial⟩, trivial⟩ trivial fun S q pc hS hq hC hE => ?_
  conv => whnf
  refine sym_unroll hE hS ?_
  conv => whnf
  refine sym_pure hC (bad_pure a0 b0) ?_
  by_cases h0 : tth a0 ∧ tth b0
  · rw [decide_eq_true h0]
    conv => whnf
    rw [show IntKind.i64.wrap (0 + 1) = 1 from wrapI (by decide) (by decide)]
    refine sym_unroll hE hS ?_
    conv => whnf
    refine sym_pure hC (bad_pure a1 b1) ?_
    by_cases h1 : tth a1 ∧ tth b1
    · rw [decide_eq_true h1]
      conv => whnf
      rw [show IntKind.i64.wrap (1 + 1) = 2 from wrapI (by decide) (by decide)]
      refine sym_unroll hE hS ?_
      conv => whnf
      exact ⟨_, rfl, by rw [show bix [(a0, b0), (a1, b1)] 0 = -1 by rw [bix_t h0, bix_t h1]; rfl]; exact Wk.refl _⟩
    · rw [decide_eq_false h1]
      conv => whnf
      exact ⟨_, rfl, by rw [show bix [(a0, b0), (a1, b1)] 0 = 1 by rw [bix_t h0, bix_f h1]; rfl]; exact Wk.refl _⟩
  · rw [decide_eq_false h0]
    conv => whnf
    exact ⟨_, rfl, by rw [show bix [(a0, b0), (a1, b1)] 0 = 0 by rw [bix_f h0]]; exact Wk.refl _⟩

theorem has2 (a0 b0 a1 b1 : Int) : Pure prog 87 [.lst [iv a0, iv b0, iv a1, iv b1] 2 .no, .func (.func 122) [] []] (.bool (!(decide (gd [(a0, b0), (a1, b1)])))) := by
  refine pure_sym hE rfl ⟨⟨⟨trivial, trivial, trivial, trivial, trivial⟩, fun _ h => nomatch h⟩, ⟨trivial, trivial⟩, trivial⟩ trivial fun S q pc hS hq hC hE => ?_
  conv => whnf
  refine sym_pure hC (idx2 a0 b0 a1 b1) ?_
  conv => whnf
  exact ⟨_, rfl, wkb (bix_ge _ 0 (Int.le_refl 0))⟩

theorem isTrain2 (a0 b0 a1 b1 : Int) : Pure prog 63 [.lst [iv a0, iv b0, iv a1, iv b1] 2 .no] (.bool (decide (gd [(a0, b0), (a1, b1)]))) := by
  refine pure_sym hE rfl ⟨⟨⟨trivial, trivial, trivial, trivial, trivial⟩, fun _ h => nomatch h⟩, trivial⟩ trivial fun S q pc hS hq hC hE => ?_
  conv => whnf
  refine sym_pure hC (in_pure 2 1 3) ?_
  conv => whnf
  refine sym_pure hC (has2 a0 b0 a1 b1) ?_
  conv => whnf
  exact ⟨_, rfl, wkb (Bool.not_not _)⟩

theorem idx3 (a0 b0 a1 b1 a2 b2 : Int) : Pure prog 131 [.lst [iv a0, iv b0, iv a1, iv b1, iv a2, iv b2] 3 .no, .func (.func 122) [] []] (iv (bix [(a0, b0), (a1, b1), (a2, b2)] 0)) := by
  refine pure_sym hE rfl ⟨⟨⟨trivial, trivial, trivial, trivial, trivial, trivial, trivial⟩, fun _ h => nomatch h⟩, ⟨trivial, trivial⟩, trivial⟩ trivial fun S q pc hS hq hC hE => ?_
  conv => whnf
  refine sym_unroll hE hS ?_
  conv => whnf
  refine sym_pure hC (bad_pure a0 b0) ?_
  by_cases h0 : tth a0 ∧ tth b0
  · rw [decide_eq_true h0]
    conv => whnf
    rw [show IntKind.i64.wrap (0 + 1) = 1 from wrapI (by decide) (by decide)]
    refine sym_unroll hE hS ?_
    conv => whnf
    refine sym_pure hC (bad_pure a1 b1) ?_
    by_cases h1 : tth a1 ∧ tth b1
    · rw [decide_eq_true h1]
      conv => whnf
      rw [show IntKind.i64.wrap (1 + 1) = 2 from wrapI (by decide) (by decide)]
      refine sym_unroll hE hS ?_
      conv => whnf
      refine sym_pure hC (bad_pure a2 b2) ?_
      by_cases h2 : tth a2 ∧ tth b2
      · rw [decide_eq_true h2]
        conv => whnf
        rw [show IntKind.i64.wrap (2 + 1) = 3 from wrapI (by decide) (by decide)]
        refine sym_unroll hE hS ?_
        conv => whnf
        exact ⟨_, rfl, by rw [show bix [(a0, b0), (a1, b1), (a2, b2)] 0 = -1 by rw [bix_t h0, bix_t h1, bix_t h2]; rfl]; exact Wk.refl _⟩
      · rw [decide_eq_false h2]
        conv => whnf
        exact ⟨_, rfl, by rw [show bix [(a0, b0), (a1, b1), (a2, b2)] 0 = 2 by rw [bix_t h0, bix_t h1, bix_f h2]; rfl]; exact Wk.refl _⟩
    · rw [decide_eq_false h1]
      conv => whnf
      exact ⟨_, rfl, by rw [show bix [(a0, b0), (a1, b1), (a2, b2)] 0 = 1 by rw [bix_t h0, bix_f h1]; rfl]; exact Wk.refl _⟩
  · rw [decide_eq_false h0]
    conv => whnf
    exact ⟨_, rfl, by rw [show bix [(a0, b0), (a1, b1), (a2, b2)] 0 = 0 by rw [bix_f h0]]; exact Wk.refl _⟩

theorem has3 (a0 b0 a1 b1 a2 b2 : Int) : Pure prog 87 [.lst [iv a0, iv b0, iv a1, iv b1, iv a2, iv b2] 3 .no, .func (.func 122) [] []] (.bool (!(decide (gd [(a0, b0), (a1, b1), (a2, b2)])))) := by
  refine pure_sym hE rfl ⟨⟨⟨trivial, trivial, trivial, trivial, trivial, trivial, trivial⟩, fun _ h => nomatch h⟩, ⟨trivial, trivial⟩, trivial⟩ trivial fun S q pc hS hq hC hE => ?_
  conv => whnf
  refine sym_pure hC (idx3 a0 b0 a1 b1 a2 b2) ?_
  conv => whnf
  exact ⟨_, rfl, wkb (bix_ge _ 0 (Int.le_refl 0))⟩

theorem isTrain3 (a0 b0 a1 b1 a2 b2 : Int) : Pure prog 63 [.lst [iv a0, iv b0, iv a1, iv b1, iv a2, iv b2] 3 .no] (.bool (decide (gd [(a0, b0), (a1, b1), (a2, b2)]))) := by
  refine pure_sym hE rfl ⟨⟨⟨trivial, trivial, trivial, trivial, trivial, trivial, trivial⟩, fun _ h => nomatch h⟩, trivial⟩ trivial fun S q pc hS hq hC hE => ?_
  conv => whnf
  refine sym_pure hC (in_pure 3 1 3) ?_
  conv => whnf
  refine sym_pure hC (has3 a0 b0 a1 b1 a2 b2) ?_
  conv => whnf
  exact ⟨_, rfl, wkb (Bool.not_not _)⟩

theorem rTrain0 : Pure prog 18 [.lst [] 0 .no] (.bool false) := by
  refine pure_sym hE rfl ⟨⟨trivial, fun _ h => nomatch h⟩, trivial⟩ trivial fun S q pc hS hq hC hE => ?_
  conv => whnf
  refine sym_unroll hE hS ?_
  conv => whnf
  refine sym_pure hC (rin_pure 0 1 3) ?_
  conv => whnf
  exact ⟨_, rfl, Wk.refl _⟩

theorem rTrain1 (a0 b0 : Int) : Pure prog 18 [.lst [iv a0, iv b0] 1 .no] (.bool (decide (gd [(a0, b0)]))) := by
  refine pure_sym hE rfl ⟨⟨⟨trivial, trivial, trivial⟩, fun _ h => nomatch h⟩, trivial⟩ trivial fun S q pc hS hq hC hE => ?_
  conv => whnf
  refine sym_unroll hE hS ?_
  conv => whnf
  refine sym_pure hC (rTeeth_pure a0) ?_
  by_cases s0 : tth a0
  · rw [decide_eq_true s0]
    conv => whnf
    refine sym_pure hC (rTeeth_pure b0) ?_
    by_cases t0 : tth b0
    · rw [decide_eq_true t0]
      conv => whnf
      rw [show IntKind.i64.wrap (0 + 1) = 1 from wrapI (by decide) (by decide)]
      refine sym_unroll hE hS ?_
      conv => whnf
      refine sym_pure hC (rin_pure 1 1 3) ?_
      conv => whnf
      exact ⟨_, rfl, wkb (by rw [show decide (gd [(a0, b0)]) = true from decide_eq_true ⟨⟨s0, t0⟩, trivial⟩]; rfl)⟩
    · rw [decide_eq_false t0]
      conv => whnf
      exact ⟨_, rfl, wkb (decide_eq_false fun g : gd [(a0, b0)] => t0 g.1.2).symm⟩
  · rw [decide_eq_false s0]
    conv => whnf
    exact ⟨_, rfl, wkb (decide_eq_false fun g : gd [(a0, b0)] => s0 g.1.1).symm⟩

theorem rTrain2 (a0 b0 a1 b1 : Int) : Pure prog 18 [.lst [iv a0, iv b0, iv a1, iv b1] 2 .no] (.bool (decide (gd [(a0, b0), (a1, b1)]))) := by
  refine pure_sym hE rfl ⟨⟨⟨trivial, trivial, trivial, trivial, trivial⟩, fun _ h => nomatch h⟩, trivial⟩ trivial fun S q pc hS hq hC hE => ?_
  conv => whnf
  refine sym_unroll hE hS ?_
  conv => whnf
  refine sym_pure hC (rTeeth_pure a0) ?_
  by_cases s0 : tth a0
  · rw [decide_eq_true s0]
    conv => whnf
    refine sym_pure hC (rTeeth_pure b0) ?_
    by_cases t0 : tth b0
    · rw [decide_eq_true t0]
      conv => whnf
      rw [show IntKind.i64.wrap (0 + 1) = 1 from wrapI (by decide) (by decide)]
      refine sym_unroll hE hS ?_
      conv => whnf
      refine sym_pure hC (rTeeth_pure a1) ?_
      by_cases s1 : tth a1
      · rw [decide_eq_true s1]
        conv => whnf
        refine sym_pure hC (rTeeth_pure b1) ?_
        by_cases t1 : tth b1
        · rw [decide_eq_true t1]
          conv => whnf
          rw [show IntKind.i64.wrap (1 + 1) = 2 from wrapI (by decide) (by decide)]
          refine sym_unroll hE hS ?_
          conv => whnf
          refine sym_pure hC (rin_pure 2 1 3) ?_
          conv => whnf
          exact ⟨_, rfl, wkb (by rw [show decide (gd [(a0, b0), (a1, b1)]) = true from decide_eq_true ⟨⟨s0, t0⟩, ⟨⟨s1, t1⟩, trivial⟩⟩]; rfl)⟩
        · rw [decide_eq_false t1]
          conv => whnf
          exact ⟨_, rfl, wkb (decide_eq_false fun g : gd [(a0, b0), (a1, b1)] => t1 g.2.1.2).symm⟩
      · rw [decide_eq_false s1]
        conv => whnf
        exact ⟨_, rfl, wkb (decide_eq_false fun g : gd [(a0, b0), (a1, b1)] => s1 g.2.1.1).symm⟩
    · rw [decide_eq_false t0]
      conv => whnf
      exact ⟨_, rfl, wkb (decide_eq_false fun g : gd [(a0, b0), (a1, b1)] => t0 g.1.2).symm⟩
  · rw [decide_eq_false s0]
    conv => whnf
    exact ⟨_, rfl, wkb (decide_eq_false fun g : gd [(a0, b0), (a1, b1)] => s0 g.1.1).symm⟩

theorem rTrain3 (a0 b0 a1 b1 a2 b2 : Int) : Pure prog 18 [.lst [iv a0, iv b0, iv a1, iv b1, iv a2, iv b2] 3 .no] (.bool (decide (gd [(a0, b0), (a1, b1), (a2, b2)]))) := by
  refine pure_sym hE rfl ⟨⟨⟨trivial, trivial, trivial, trivial, trivial, trivial, trivial⟩, fun _ h => nomatch h⟩, trivial⟩ trivial fun S q pc hS hq hC hE => ?_
  conv => whnf
  refine sym_unroll hE hS ?_
  conv => whnf
  refine sym_pure hC (rTeeth_pure a0) ?_
  by_cases s0 : tth a0
  · rw [decide_eq_true s0]
    conv => whnf
    refine sym_pure hC (rTeeth_pure b0) ?_
    by_cases t0 : tth b0
    · rw [decide_eq_true t0]
      conv => whnf
      rw [show IntKind.i64.wrap (0 + 1) = 1 from wrapI (by decide) (by decide)]
      refine sym_unroll hE hS ?_
      conv => whnf
      refine sym_pure hC (rTeeth_pure a1) ?_
      by_cases s1 : tth a1
      · rw [decide_eq_true s1]
        conv => whnf
        refine sym_pure hC (rTeeth_pure b1) ?_
        by_cases t1 : tth b1
        · rw [decide_eq_true t1]
          conv => whnf
          rw [show IntKind.i64.wrap (1 + 1) = 2 from wrapI (by decide) (by decide)]
          refine sym_unroll hE hS ?_
          conv => whnf
          refine sym_pure hC (rTeeth_pure a2) ?_
          by_cases s2 : tth a2
          · rw [decide_eq_true s2]
            conv => whnf
            refine sym_pure hC (rTeeth_pure b2) ?_
            by_cases t2 : tth b2
            · rw [decide_eq_true t2]
              conv => whnf
              rw [show IntKind.i64.wrap (2 + 1) = 3 from wrapI (by decide) (by decide)]
              refine sym_unroll hE hS ?_
              conv => whnf
              refine sym_pure hC (rin_pure 3 1 3) ?_
              conv => whnf
              exact ⟨_, rfl, wkb (by rw [show decide (gd [(a0, b0), (a1, b1), (a2, b2)]) = true from decide_eq_true ⟨⟨s0, t0⟩, ⟨⟨s1, t1⟩, ⟨⟨s2, t2⟩, trivial⟩⟩⟩]; rfl)⟩
            · rw [decide_eq_false t2]
              conv => whnf
              exact ⟨_, rfl, wkb (decide_eq_false fun g : gd [(a0, b0), (a1, b1), (a2, b2)] => t2 g.2.2.1.2).symm⟩
          · rw [decide_eq_false s2]
            conv => whnf
            exact ⟨_, rfl, wkb (decide_eq_false fun g : gd [(a0, b0), (a1, b1), (a2, b2)] => s2 g.2.2.1.1).symm⟩
        · rw [decide_eq_false t1]
          conv => whnf
          exact ⟨_, rfl, wkb (decide_eq_false fun g : gd [(a0, b0), (a1, b1), (a2, b2)] => t1 g.2.1.2).symm⟩
      · rw [decide_eq_false s1]
        conv => whnf
        exact ⟨_, rfl, wkb (decide_eq_false fun g : gd [(a0, b0), (a1, b1), (a2, b2)] => s1 g.2.1.1).symm⟩
    · rw [decide_eq_false t0]
      conv => whnf
      exact ⟨_, rfl, wkb (decide_eq_false fun g : gd [(a0, b0), (a1, b1), (a2, b2)] => t0 g.1.2).symm⟩
  · rw [decide_eq_false s0]
    conv => whnf
    exact ⟨_, rfl, wkb (decide_eq_false fun g : gd [(a0, b0), (a1, b1), (a2, b2)] => s0 g.1.1).symm⟩

theorem rTrain4 (a0 b0 a1 b1 a2 b2 a3 b3 : Int) : Pure prog 18 [.lst [iv a0, iv b0, iv a1, iv b1, iv a2, iv b2, iv a3, iv b3] 4 .no] (.bool false) := by
  refine pure_sym hE rfl ⟨⟨⟨trivial, trivial, trivial, trivial, trivial, trivial, trivial, trivial, trivial⟩, fun _ h => nomatch h⟩, trivial⟩ trivial fun S q pc hS hq hC hE => ?_
  conv => whnf
  refine sym_unroll hE hS ?_
  conv => whnf
  refine sym_pure hC (rTeeth_pure a0) ?_
  by_cases s0 : tth a0
  · rw [decide_eq_true s0]
    conv => whnf
    refine sym_pure hC (rTeeth_pure b0) ?_
    by_cases t0 : tth b0
    · rw [decide_eq_true t0]
      conv => whnf
      rw [show IntKind.i64.wrap (0 + 1) = 1 from wrapI (by decide) (by decide)]
      refine sym_unroll hE hS ?_
      conv => whnf
      refine sym_pure hC (rTeeth_pure a1) ?_
      by_cases s1 : tth a1
      · rw [decide_eq_true s1]
        conv => whnf
        refine sym_pure hC (rTeeth_pure b1) ?_
        by_cases t1 : tth b1
        · rw [decide_eq_true t1]
          conv => whnf
          rw [show IntKind.i64.wrap (1 + 1) = 2 from wrapI (by decide) (by decide)]
          refine sym_unroll hE hS ?_
          conv => whnf
          refine sym_pure hC (rTeeth_pure a2) ?_
          by_cases s2 : tth a2
          · rw [decide_eq_true s2]
            conv => whnf
            refine sym_pure hC (rTeeth_pure b2) ?_
            by_cases t2 : tth b2
            · rw [decide_eq_true t2]
              conv => whnf
              rw [show IntKind.i64.wrap (2 + 1) = 3 from wrapI (by decide) (by decide)]
              refine sym_unroll hE hS ?_
              conv => whnf
              refine sym_pure hC (rTeeth_pure a3) ?_
              by_cases s3 : tth a3
              · rw [decide_eq_true s3]
                conv => whnf
                refine sym_pure hC (rTeeth_pure b3) ?_
                by_cases t3 : tth b3
                · rw [decide_eq_true t3]
                  conv => whnf
                  rw [show IntKind.i64.wrap (3 + 1) = 4 from wrapI (by decide) (by decide)]
                  refine sym_unroll hE hS ?_
                  conv => whnf
                  refine sym_pure hC (rin_pure 4 1 3) ?_
                  conv => whnf
                  exact ⟨_, rfl, Wk.refl _⟩
                · rw [decide_eq_false t3]
                  conv => whnf
                  exact ⟨_, rfl, Wk.refl _⟩
              · rw [decide_eq_false s3]
                conv => whnf
                exact ⟨_, rfl, Wk.refl _⟩
            · rw [decide_eq_false t2]
              conv => whnf
              exact ⟨_, rfl, Wk.refl _⟩
          · rw [decide_eq_false s2]
            conv => whnf
            exact ⟨_, rfl, Wk.refl _⟩
        · rw [decide_eq_false t1]
          conv => whnf
          exact ⟨_, rfl, Wk.refl _⟩
      · rw [decide_eq_false s1]
        conv => whnf
        exact ⟨_, rfl, Wk.refl _⟩
    · rw [decide_eq_false t0]
      conv => whnf
      exact ⟨_, rfl, Wk.refl _⟩
  · rw [decide_eq_false s0]
    conv => whnf
    exact ⟨_, rfl, Wk.refl _⟩

theorem rTrain5 (a0 b0 a1 b1 a2 b2 a3 b3 a4 b4 : Int) : Pure prog 18 [.lst [iv a0, iv b0, iv a1, iv b1, iv a2, iv b2, iv a3, iv b3, iv a4, iv b4] 5 .no] (.bool false) := by
  refine pure_sym hE rfl ⟨⟨⟨trivial, trivial, trivial, trivial, trivial, trivial, trivial, trivial, trivial, trivial, trivial⟩, fun _ h => nomatch h⟩, trivial⟩ trivial fun S q pc hS hq hC hE => ?_
  conv => whnf
  refine sym_unroll hE hS ?_
  conv => whnf
  refine sym_pure hC (rTeeth_pure a0) ?_
  by_cases s0 : tth a0
  · rw [decide_eq_true s0]
    conv => whnf
    refine sym_pure hC (rTeeth_pure b0) ?_
    by_cases t0 : tth b0
    · rw [decide_eq_true t0]
      conv => whnf
      rw [show IntKind.i64.wrap (0 + 1) = 1 from wrapI (by decide) (by decide)]
      refine sym_unroll hE hS ?_
      conv => whnf
      refine sym_pure hC (rTeeth_pure a1) ?_
      by_cases s1 : tth a1
      · rw [decide_eq_true s1]
        conv => whnf
        refine sym_pure hC (rTeeth_pure b1) ?_
        by_cases t1 : tth b1
        · rw [decide_eq_true t1]
          conv => whnf
          rw [show IntKind.i64.wrap (1 + 1) = 2 from wrapI (by decide) (by decide)]
          refine sym_unroll hE hS ?_
          conv => whnf
          refine sym_pure hC (rTeeth_pure a2) ?_
          by_cases s2 : tth a2
          · rw [decide_eq_true s2]
            conv => whnf
            refine sym_pure hC (rTeeth_pure b2) ?_
            by_cases t2 : tth b2
            · rw [decide_eq_true t2]
              conv => whnf
              rw [show IntKind.i64.wrap (2 + 1) = 3 from wrapI (by decide) (by decide)]
              refine sym_unroll hE hS ?_
              conv => whnf
              refine sym_pure hC (rTeeth_pure a3) ?_
              by_cases s3 : tth a3
              · rw [decide_eq_true s3]
                conv => whnf
                refine sym_pure hC (rTeeth_pure b3) ?_
                by_cases t3 : tth b3
                · rw [decide_eq_true t3]
                  conv => whnf
                  rw [show IntKind.i64.wrap (3 + 1) = 4 from wrapI (by decide) (by decide)]
                  refine sym_unroll hE hS ?_
                  conv => whnf
                  refine sym_pure hC (rTeeth_pure a4) ?_
                  by_cases s4 : tth a4
                  · rw [decide_eq_true s4]
                    conv => whnf
                    refine sym_pure hC (rTeeth_pure b4) ?_
                    by_cases t4 : tth b4
                    · rw [decide_eq_true t4]
                      conv => whnf
                      rw [show IntKind.i64.wrap (4 + 1) = 5 from wrapI (by decide) (by decide)]
                      refine sym_unroll hE hS ?_
                      conv => whnf
                      refine sym_pure hC (rin_pure 5 1 3) ?_
                      conv => whnf
                      exact ⟨_, rfl, Wk.refl _⟩
                    · rw [decide_eq_false t4]
                      conv => whnf
                      exact ⟨_, rfl, Wk.refl _⟩
                  · rw [decide_eq_false s4]
                    conv => whnf
                    exact ⟨_, rfl, Wk.refl _⟩
                · rw [decide_eq_false t3]
                  conv => whnf
                  exact ⟨_, rfl, Wk.refl _⟩
              · rw [decide_eq_false s3]
                conv => whnf
                exact ⟨_, rfl, Wk.refl _⟩
            · rw [decide_eq_false t2]
              conv => whnf
              exact ⟨_, rfl, Wk.refl _⟩
          · rw [decide_eq_false s2]
            conv => whnf
            exact ⟨_, rfl, Wk.refl _⟩
        · rw [decide_eq_false t1]
          conv => whnf
          exact ⟨_, rfl, Wk.refl _⟩
      · rw [decide_eq_false s1]
        conv => whnf
        exact ⟨_, rfl, Wk.refl _⟩
    · rw [decide_eq_false t0]
      conv => whnf
      exact ⟨_, rfl, Wk.refl _⟩
  · rw [decide_eq_false s0]
    conv => whnf
    exact ⟨_, rfl, Wk.refl _⟩

theorem rTrain6 (a0 b0 a1 b1 a2 b2 a3 b3 a4 b4 a5 b5 : Int) : Pure prog 18 [.lst [iv a0, iv b0, iv a1, iv b1, iv a2, iv b2, iv a3, iv b3, iv a4, iv b4, iv a5, iv b5] 6 .no] (.bool false) := by
  refine pure_sym hE rfl ⟨⟨⟨trivial, trivial, trivial, trivial, trivial, trivial, trivial, trivial, trivial, trivial, trivial, trivial, trivial⟩, fun _ h => nomatch h⟩, trivial⟩ trivial fun S q pc hS hq hC hE => ?_
  conv => whnf
  refine sym_unroll hE hS ?_
  conv => whnf
  refine sym_pure hC (rTeeth_pure a0) ?_
  by_cases s0 : tth a0
  · rw [decide_eq_true s0]
    conv => whnf
    refine sym_pure hC (rTeeth_pure b0) ?_
    by_cases t0 : tth b0
    · rw [decide_eq_true t0]
      conv => whnf
      rw [show IntKind.i64.wrap (0 + 1) = 1 from wrapI (by decide) (by decide)]
      refine sym_unroll hE hS ?_
      conv => whnf
      refine sym_pure hC (rTeeth_pure a1) ?_
      by_cases s1 : tth a1
      · rw [decide_eq_true s1]
        conv => whnf
        refine sym_pure hC (rTeeth_pure b1) ?_
        by_cases t1 : tth b1
        · rw [decide_eq_true t1]
          conv => whnf
          rw [show IntKind.i64.wrap (1 + 1) = 2 from wrapI (by decide) (by decide)]
          refine sym_unroll hE hS ?_
          conv => whnf
          refine sym_pure hC (rTeeth_pure a2) ?_
          by_cases s2 : tth a2
          · rw [decide_eq_true s2]
            conv => whnf
            refine sym_pure hC (rTeeth_pure b2) ?_
            by_cases t2 : tth b2
            · rw [decide_eq_true t2]
              conv => whnf
              rw [show IntKind.i64.wrap (2 + 1) = 3 from wrapI (by decide) (by decide)]
              refine sym_unroll hE hS ?_
              conv => whnf
              refine sym_pure hC (rTeeth_pure a3) ?_
              by_cases s3 : tth a3
              · rw [decide_eq_true s3]
                conv => whnf
                refine sym_pure hC (rTeeth_pure b3) ?_
                by_cases t3 : tth b3
                · rw [decide_eq_true t3]
                  conv => whnf
                  rw [show IntKind.i64.wrap (3 + 1) = 4 from wrapI (by decide) (by decide)]
                  refine sym_unroll hE hS ?_
                  conv => whnf
                  refine sym_pure hC (rTeeth_pure a4) ?_
                  by_cases s4 : tth a4
                  · rw [decide_eq_true s4]
                    conv => whnf
                    refine sym_pure hC (rTeeth_pure b4) ?_
                    by_cases t4 : tth b4
                    · rw [decide_eq_true t4]
                      conv => whnf
                      rw [show IntKind.i64.wrap (4 + 1) = 5 from wrapI (by decide) (by decide)]
                      refine sym_unroll hE hS ?_
                      conv => whnf
                      refine sym_pure hC (rTeeth_pure a5) ?_
                      by_cases s5 : tth a5
                      · rw [decide_eq_true s5]
                        conv => whnf
                        refine sym_pure hC (rTeeth_pure b5) ?_
                        by_cases t5 : tth b5
                        · rw [decide_eq_true t5]
                          conv => whnf
                          rw [show IntKind.i64.wrap (5 + 1) = 6 from wrapI (by decide) (by decide)]
                          refine sym_unroll hE hS ?_
                          conv => whnf
                          refine sym_pure hC (rin_pure 6 1 3) ?_
                          conv => whnf
                          exact ⟨_, rfl, Wk.refl _⟩
                        · rw [decide_eq_false t5]
                          conv => whnf
                          exact ⟨_, rfl, Wk.refl _⟩
                      · rw [decide_eq_false s5]
                        conv => whnf
                        exact ⟨_, rfl, Wk.refl _⟩
                    · rw [decide_eq_false t4]
                      conv => whnf
                      exact ⟨_, rfl, Wk.refl _⟩
                  · rw [decide_eq_false s4]
                    conv => whnf
                    exact ⟨_, rfl, Wk.refl _⟩
                · rw [decide_eq_false t3]
                  conv => whnf
                  exact ⟨_, rfl, Wk.refl _⟩
              · rw [decide_eq_false s3]
                conv => whnf
                exact ⟨_, rfl, Wk.refl _⟩
            · rw [decide_eq_false t2]
              conv => whnf
              exact ⟨_, rfl, Wk.refl _⟩
          · rw [decide_eq_false s2]
            conv => whnf
            exact ⟨_, rfl, Wk.refl _⟩
        · rw [decide_eq_false t1]
          conv => whnf
          exact ⟨_, rfl, Wk.refl _⟩
      · rw [decide_eq_false s1]
        conv => whnf
        exact ⟨_, rfl, Wk.refl _⟩
    · rw [decide_eq_false t0]
      conv => whnf
      exact ⟨_, rfl, Wk.refl _⟩
  · rw [decide_eq_false s0]
    conv => whnf
    exact ⟨_, rfl, Wk.refl _⟩

theorem rTrain7 (a0 b0 a1 b1 a2 b2 a3 b3 a4 b4 a5 b5 a6 b6 : Int) : Pure prog 18 [.lst [iv a0, iv b0, iv a1, iv b1, iv a2, iv b2, iv a3, iv b3, iv a4, iv b4, iv a5, iv b5, iv a6, iv b6] 7 .no] (.bool false) := by
  refine pure_sym hE rfl ⟨⟨⟨trivial, trivial, trivial, trivial, trivial, trivial, trivial, trivial, trivial, trivial, trivial, trivial, trivial, trivial, trivial⟩, fun _ h => nomatch h⟩, trivial⟩ trivial fun S q pc hS hq hC hE => ?_
  conv => whnf
  refine sym_unroll hE hS ?_
  conv => whnf
  refine sym_pure hC (rTeeth_pure a0) ?_
  by_cases s0 : tth a0
  · rw [decide_eq_true s0]
    conv => whnf
    refine sym_pure hC (rTeeth_pure b0) ?_
    by_cases t0 : tth b0
    · rw [decide_eq_true t0]
      conv => whnf
      rw [show IntKind.i64.wrap (0 + 1) = 1 from wrapI (by decide) (by decide)]
      refine sym_unroll hE hS ?_
      conv => whnf
      refine sym_pure hC (rTeeth_pure a1) ?_
      by_cases s1 : tth a1
      · rw [decide_eq_true s1]
        conv => whnf
        refine sym_pure hC (rTeeth_pure b1) ?_
        by_cases t1 : tth b1
        · rw [decide_eq_true t1]
          conv => whnf
          rw [show IntKind.i64.wrap (1 + 1) = 2 from wrapI (by decide) (by decide)]
          refine sym_unroll hE hS ?_
          conv => whnf
          refine sym_pure hC (rTeeth_pure a2) ?_
          by_cases s2 : tth a2
          · rw [decide_eq_true s2]
            conv => whnf
            refine sym_pure hC (rTeeth_pure b2) ?_
            by_cases t2 : tth b2
            · rw [decide_eq_true t2]
              conv => whnf
              rw [show IntKind.i64.wrap (2 + 1) = 3 from wrapI (by decide) (by decide)]
              refine sym_unroll hE hS ?_
              conv => whnf
              refine sym_pure hC (rTeeth_pure a3) ?_
              by_cases s3 : tth a3
              · rw [decide_eq_true s3]
                conv => whnf
                refine sym_pure hC (rTeeth_pure b3) ?_
                by_cases t3 : tth b3
                · rw [decide_eq_true t3]
                  conv => whnf
                  rw [show IntKind.i64.wrap (3 + 1) = 4 from wrapI (by decide) (by decide)]
                  refine sym_unroll hE hS ?_
                  conv => whnf
                  refine sym_pure hC (rTeeth_pure a4) ?_
                  by_cases s4 : tth a4
                  · rw [decide_eq_true s4]
                    conv => whnf
                    refine sym_pure hC (rTeeth_pure b4) ?_
                    by_cases t4 : tth b4
                    · rw [decide_eq_true t4]
                      conv => whnf
                      rw [show IntKind.i64.wrap (4 + 1) = 5 from wrapI (by decide) (by decide)]
                      refine sym_unroll hE hS ?_
                      conv => whnf
                      refine sym_pure hC (rTeeth_pure a5) ?_
                      by_cases s5 : tth a5
                      · rw [decide_eq_true s5]
                        conv => whnf
                        refine sym_pure hC (rTeeth_pure b5) ?_
                        by_cases t5 : tth b5
                        · rw [decide_eq_true t5]
                          conv => whnf
                          rw [show IntKind.i64.wrap (5 + 1) = 6 from wrapI (by decide) (by decide)]
                          refine sym_unroll hE hS ?_
                          conv => whnf
                          refine sym_pure hC (rTeeth_pure a6) ?_
                          by_cases s6 : tth a6
                          · rw [decide_eq_true s6]
                            conv => whnf
                            refine sym_pure hC (rTeeth_pure b6) ?_
                            by_cases t6 : tth b6
                            · rw [decide_eq_true t6]
                              conv => whnf
                              rw [show IntKind.i64.wrap (6 + 1) = 7 from wrapI (by decide) (by decide)]
                              refine sym_unroll hE hS ?_
                              conv => whnf
                              refine sym_pure hC (rin_pure 7 1 3) ?_
                              conv => whnf
                              exact ⟨_, rfl, Wk.refl _⟩
                            · rw [decide_eq_false t6]
                              conv => whnf
                              exact ⟨_, rfl, Wk.refl _⟩
                          · rw [decide_eq_false s6]
                            conv => whnf
                            exact ⟨_, rfl, Wk.refl _⟩
                        · rw [decide_eq_false t5]
                          conv => whnf
                          exact ⟨_, rfl, Wk.refl _⟩
                      · rw [decide_eq_false s5]
                        conv => whnf
                        exact ⟨_, rfl, Wk.refl _⟩
                    · rw [decide_eq_false t4]
                      conv => whnf
                      exact ⟨_, rfl, Wk.refl _⟩
                  · rw [decide_eq_false s4]
                    conv => whnf
                    exact ⟨_, rfl, Wk.refl _⟩
                · rw [decide_eq_false t3]
                  conv => whnf
                  exact ⟨_, rfl, Wk.refl _⟩
              · rw [decide_eq_false s3]
                conv => whnf
                exact ⟨_, rfl, Wk.refl _⟩
            · rw [decide_eq_false t2]
              conv => whnf
              exact ⟨_, rfl, Wk.refl _⟩
          · rw [decide_eq_false s2]
            conv => whnf
            exact ⟨_, rfl, Wk.refl _⟩
        · rw [decide_eq_false t1]
          conv => whnf
          exact ⟨_, rfl, Wk.refl _⟩
      · rw [decide_eq_false s1]
        conv => whnf
        exact ⟨_, rfl, Wk.refl _⟩
    · rw [decide_eq_false t0]
      conv => whnf
      exact ⟨_, rfl, Wk.refl _⟩
  · rw [decide_eq_false s0]
    conv => whnf
    exact ⟨_, rfl, Wk.refl _⟩

theorem rTrain8 (a0 b0 a1 b1 a2 b2 a3 b3 a4 b4 a5 b5 a6 b6 a7 b7 : Int) : Pure prog 18 [.lst [iv a0, iv b0, iv a1, iv b1, iv a2, iv b2, iv a3, iv b3, iv a4, iv b4, iv a5, iv b5, iv a6, iv b6, iv a7, iv b7] 8 .no] (.bool false) := by
  refine pure_sym hE rfl ⟨⟨⟨trivial, trivial, trivial, trivial, trivial, trivial, trivial, trivial, trivial, trivial, trivial, trivial, trivial, trivial, trivial, trivial, trivial⟩, fun _ h => nomatch h⟩, trivial⟩ trivial fun S q pc hS hq hC hE => ?_
  conv => whnf
  refine sym_unroll hE hS ?_
  conv => whnf
  refine sym_pure hC (rTeeth_pure a0) ?_
  by_cases s0 : tth a0
  · rw [decide_eq_true s0]
    conv => whnf
    refine sym_pure hC (rTeeth_pure b0) ?_
    by_cases t0 : tth b0
    · rw [decide_eq_true t0]
      conv => whnf
      rw [show IntKind.i64.wrap (0 + 1) = 1 from wrapI (by decide) (by decide)]
      refine sym_unroll hE hS ?_
      conv => whnf
      refine sym_pure hC (rTeeth_pure a1) ?_
      by_cases s1 : tth a1
      · rw [decide_eq_true s1]
        conv => whnf
        refine sym_pure hC (rTeeth_pure b1) ?_
        by_cases t1 : tth b1
        · rw [decide_eq_true t1]
          conv => whnf
          rw [show IntKind.i64.wrap (1 + 1) = 2 from wrapI (by decide) (by decide)]
          refine sym_unroll hE hS ?_
          conv => whnf
          refine sym_pure hC (rTeeth_pure a2) ?_
          by_cases s2 : tth a2
          · rw [decide_eq_true s2]
            conv => whnf
            refine sym_pure hC (rTeeth_pure b2) ?_
            by_cases t2 : tth b2
            · rw [decide_eq_true t2]
              conv => whnf
              rw [show IntKind.i64.wrap (2 + 1) = 3 from wrapI (by decide) (by decide)]
              refine sym_unroll hE hS ?_
              conv => whnf
              refine sym_pure hC (rTeeth_pure a3) ?_
              by_cases s3 : tth a3
              · rw [decide_eq_true s3]
                conv => whnf
                refine sym_pure hC (rTeeth_pure b3) ?_
                by_cases t3 : tth b3
                · rw [decide_eq_true t3]
                  conv => whnf
                  rw [show IntKind.i64.wrap (3 + 1) = 4 from wrapI (by decide) (by decide)]
                  refine sym_unroll hE hS ?_
                  conv => whnf
                  refine sym_pure hC (rTeeth_pure a4) ?_
                  by_cases s4 : tth a4
                  · rw [decide_eq_true s4]
                    conv => whnf
                    refine sym_pure hC (rTeeth_pure b4) ?_
                    by_cases t4 : tth b4
                    · rw [decide_eq_true t4]
                      conv => whnf
                      rw [show IntKind.i64.wrap (4 + 1) = 5 from wrapI (by decide) (by decide)]
                      refine sym_unroll hE hS ?_
                      conv => whnf
                      refine sym_pure hC (rTeeth_pure a5) ?_
                      by_cases s5 : tth a5
                      · rw [decide_eq_true s5]
                        conv => whnf
                        refine sym_pure hC (rTeeth_pure b5) ?_
                        by_cases t5 : tth b5
                        · rw [decide_eq_true t5]
                          conv => whnf
                          rw [show IntKind.i64.wrap (5 + 1) = 6 from wrapI (by decide) (by decide)]
                          refine sym_unroll hE hS ?_
                          conv => whnf
                          refine sym_pure hC (rTeeth_pure a6) ?_
                          by_cases s6 : tth a6
                          · rw [decide_eq_true s6]
                            conv => whnf
                            refine sym_pure hC (rTeeth_pure b6) ?_
                            by_cases t6 : tth b6
                            · rw [decide_eq_true t6]
                              conv => whnf
                              rw [show IntKind.i64.wrap (6 + 1) = 7 from wrapI (by decide) (by decide)]
                              refine sym_unroll hE hS ?_
                              conv => whnf
                              refine sym_pure hC (rTeeth_pure a7) ?_
                              by_cases s7 : tth a7
                              · rw [decide_eq_true s7]
                                conv => whnf
                                refine sym_pure hC (rTeeth_pure b7) ?_
                                by_cases t7 : tth b7
                                · rw [decide_eq_true t7]
                                  conv => whnf
                                  rw [show IntKind.i64.wrap (7 + 1) = 8 from wrapI (by decide) (by decide)]
                                  refine sym_unroll hE hS ?_
                                  conv => whnf
                                  refine sym_pure hC (rin_pure 8 1 3) ?_
                                  conv => whnf
                                  exact ⟨_, rfl, Wk.refl _⟩
                                · rw [decide_eq_false t7]
                                  conv => whnf
                                  exact ⟨_, rfl, Wk.refl _⟩
                              · rw [decide_eq_false s7]
                                conv => whnf
                                exact ⟨_, rfl, Wk.refl _⟩
                            · rw [decide_eq_false t6]
                              conv => whnf
                              exact ⟨_, rfl, Wk.refl _⟩
                          · rw [decide_eq_false s6]
                            conv => whnf
                            exact ⟨_, rfl, Wk.refl _⟩
                        · rw [decide_eq_false t5]
                          conv => whnf
                          exact ⟨_, rfl, Wk.refl _⟩
                      · rw [decide_eq_false s5]
                        conv => whnf
                        exact ⟨_, rfl, Wk.refl _⟩
                    · rw [decide_eq_false t4]
                      conv => whnf
                      exact ⟨_, rfl, Wk.refl _⟩
                  · rw [decide_eq_false s4]
                    conv => whnf
                    exact ⟨_, rfl, Wk.refl _⟩
                · rw [decide_eq_false t3]
                  conv => whnf
                  exact ⟨_, rfl, Wk.refl _⟩
              · rw [decide_eq_false s3]
                conv => whnf
                exact ⟨_, rfl, Wk.refl _⟩
            · rw [decide_eq_false t2]
              conv => whnf
              exact ⟨_, rfl, Wk.refl _⟩
          · rw [decide_eq_false s2]
            conv => whnf
            exact ⟨_, rfl, Wk.refl _⟩
        · rw [decide_eq_false t1]
          conv => whnf
          exact ⟨_, rfl, Wk.refl _⟩
      · rw [decide_eq_false s1]
        conv => whnf
        exact ⟨_, rfl, Wk.refl _⟩
    · rw [decide_eq_false t0]
      conv => whnf
      exact ⟨_, rfl, Wk.refl _⟩
  · rw [decide_eq_false s0]
    conv => whnf
    exact ⟨_, rfl, Wk.refl _⟩

end Go.Abs.Seat

/-! What a train turns its hand by. -/
namespace Go.Abs.Seat
open Go Go.Abs Go.Proofs.Tryz
set_option maxRecDepth 100000
set_option maxHeartbeats 4000000
attribute [local irreducible] IntKind.wrap pEq

theorem mul1N {a : Nat} (h : a < 9223372036854775808) : IntKind.i64.wrap (1 * Int.ofNat a) = Int.ofNat (1 * a) := mulN (a := 1) (b := a) (by omega)

theorem product1 (a0 : Nat) (h0 : a0 ≤ 60) : Pure prog 127 [.lst [nv a0] 1 .no] (nv (1 * a0)) := by
  refine pure_sym hE rfl ⟨⟨⟨trivial, trivial⟩, fun _ h => nomatch h⟩, trivial⟩ trivial fun S q pc hS hq hC hE => ?_
  conv => whnf
  refine sym_unroll hE hS ?_
  conv => whnf
  rw [show IntKind.i64.wrap (0 + 1) = 1 from wrapI (by decide) (by decide), mul1N (a := a0) (by omega)]
  refine sym_unroll hE hS ?_
  conv => whnf
  exact ⟨_, rfl, Wk.refl _⟩

theorem product2 (a0 a1 : Nat) (h0 : a0 ≤ 60) (h1 : a1 ≤ 60) : Pure prog 127 [.lst [nv a0, nv a1] 2 .no] (nv (1 * a0 * a1)) := by
  refine pure_sym hE rfl ⟨⟨⟨trivial, trivial, trivial⟩, fun _ h => nomatch h⟩, trivial⟩ trivial fun S q pc hS hq hC hE => ?_
  have q1 : 1 * a0 * a1 ≤ 60 * 60 := Nat.mul_le_mul (show 1 * a0 ≤ 60 by omega) (by omega)
  conv => whnf
  refine sym_unroll hE hS ?_
  conv => whnf
  rw [show IntKind.i64.wrap (0 + 1) = 1 from wrapI (by decide) (by decide), mul1N (a := a0) (by omega)]
  refine sym_unroll hE hS ?_
  conv => whnf
  rw [show IntKind.i64.wrap (1 + 1) = 2 from wrapI (by decide) (by decide), mulN (a := 1 * a0) (b := a1) (by omega)]
  refine sym_unroll hE hS ?_
  conv => whnf
  exact ⟨_, rfl, Wk.refl _⟩

theorem product3 (a0 a1 a2 : Nat) (h0 : a0 ≤ 60) (h1 : a1 ≤ 60) (h2 : a2 ≤ 60) : Pure prog 127 [.lst [nv a0, nv a1, nv a2] 3 .no] (nv (1 * a0 * a1 * a2)) := by
  refine pure_sym hE rfl ⟨⟨⟨trivial, trivial, trivial, trivial⟩, fun _ h => nomatch h⟩, trivial⟩ trivial fun S q pc hS hq hC hE => ?_
  have q1 : 1 * a0 * a1 ≤ 60 * 60 := Nat.mul_le_mul (show 1 * a0 ≤ 60 by omega) (by omega)
  have q2 : 1 * a0 * a1 * a2 ≤ 3600 * 60 := Nat.mul_le_mul (show 1 * a0 * a1 ≤ 3600 by omega) (by omega)
  conv => whnf
  refine sym_unroll hE hS ?_
  conv => whnf
  rw [show IntKind.i64.wrap (0 + 1) = 1 from wrapI (by decide) (by decide), mul1N (a := a0) (by omega)]
  refine sym_unroll hE hS ?_
  conv => whnf
  rw [show IntKind.i64.wrap (1 + 1) = 2 from wrapI (by decide) (by decide), mulN (a := 1 * a0) (b := a1) (by omega)]
  refine sym_unroll hE hS ?_
  conv => whnf
  rw [show IntKind.i64.wrap (2 + 1) = 3 from wrapI (by decide) (by decide), mulN (a := 1 * a0 * a1) (b := a2) (by omega)]
  refine sym_unroll hE hS ?_
  conv => whnf
  exact ⟨_, rfl, Wk.refl _⟩

theorem turns1 (a0 b0 : Nat) (h0 : (1 ≤ a0 ∧ a0 ≤ 60) ∧ (1 ≤ b0 ∧ b0 ≤ 60)) : Pure prog 81 [.lst [nv a0, nv b0] 1 .no] (fv (Int.ofNat ((1 * a0) / Nat.gcd (1 * a0) (1 * b0))) (Int.ofNat ((1 * b0) / Nat.gcd (1 * a0) (1 * b0)))) := by
  refine pure_sym hE rfl ⟨⟨⟨trivial, trivial, trivial⟩, fun _ h => nomatch h⟩, trivial⟩ ⟨trivial, trivial, trivial⟩ fun S q pc hS hq hC hE => ?_
  have hp : 1 ≤ 1 * b0 := by
    omega
  conv => whnf
  refine sym_unroll hE hS ?_
  conv => whnf
  refine sym_drawn hS (by kernel_rfl) ?_
  conv => whnf
  rw [show IntKind.i64.wrap (0 + 1) = 1 from wrapI (by decide) (by decide)]
  refine sym_unroll hE hS ?_
  conv => whnf
  refine sym_pureW hC (product1 a0 h0.1.2) ?_
  conv => whnf
  refine sym_pureW hC (product1 b0 h0.2.2) ?_
  conv => whnf
  refine sym_pure hC (reduced_pure (1 * a0) (1 * b0) (by omega) (by omega) hp) ?_
  conv => whnf
  exact ⟨_, rfl, Wk.refl _⟩

theorem rTurns1 (a0 b0 : Nat) (h0 : (1 ≤ a0 ∧ a0 ≤ 60) ∧ (1 ≤ b0 ∧ b0 ≤ 60)) : Pure prog 40 [.lst [nv a0, nv b0] 1 .no] (fv (Int.ofNat ((1 * a0) / Nat.gcd (1 * a0) (1 * b0))) (Int.ofNat ((1 * b0) / Nat.gcd (1 * a0) (1 * b0)))) := by
  refine pure_sym hE rfl ⟨⟨⟨trivial, trivial, trivial⟩, fun _ h => nomatch h⟩, trivial⟩ ⟨trivial, trivial, trivial⟩ fun S q pc hS hq hC hE => ?_
  have hp : 1 ≤ 1 * b0 := by
    omega
  conv => whnf
  refine sym_unroll hE hS ?_
  conv => whnf
  refine sym_drawn hS (by kernel_rfl) ?_
  conv => whnf
  rw [show IntKind.i64.wrap (0 + 1) = 1 from wrapI (by decide) (by decide), mul1N (a := a0) (by omega), mul1N (a := b0) (by omega)]
  refine sym_unroll hE hS ?_
  conv => whnf
  refine sym_pure hC (rReduced_pure (1 * a0) (1 * b0) (by omega) (by omega) hp) ?_
  conv => whnf
  exact ⟨_, rfl, Wk.refl _⟩

theorem turns2 (a0 b0 a1 b1 : Nat) (h0 : (1 ≤ a0 ∧ a0 ≤ 60) ∧ (1 ≤ b0 ∧ b0 ≤ 60)) (h1 : (1 ≤ a1 ∧ a1 ≤ 60) ∧ (1 ≤ b1 ∧ b1 ≤ 60)) : Pure prog 81 [.lst [nv a0, nv b0, nv a1, nv b1] 2 .no] (fv (Int.ofNat ((1 * a0 * a1) / Nat.gcd (1 * a0 * a1) (1 * b0 * b1))) (Int.ofNat ((1 * b0 * b1) / Nat.gcd (1 * a0 * a1) (1 * b0 * b1)))) := by
  refine pure_sym hE rfl ⟨⟨⟨trivial, trivial, trivial, trivial, trivial⟩, fun _ h => nomatch h⟩, trivial⟩ ⟨trivial, trivial, trivial⟩ fun S q pc hS hq hC hE => ?_
  have q1 : 1 * a0 * a1 ≤ 60 * 60 := Nat.mul_le_mul (show 1 * a0 ≤ 60 by omega) (by omega)
  have p1 : 1 * b0 * b1 ≤ 60 * 60 := Nat.mul_le_mul (show 1 * b0 ≤ 60 by omega) (by omega)
  have hp : 1 ≤ 1 * b0 * b1 := by
    have r1 : 1 ≤ 1 * b0 * b1 := Nat.mul_pos (show 0 < 1 * b0 by omega) (by omega)
    omega
  conv => whnf
  refine sym_unroll hE hS ?_
  conv => whnf
  refine sym_drawn hS (by kernel_rfl) ?_
  conv => whnf
  rw [show IntKind.i64.wrap (0 + 1) = 1 from wrapI (by decide) (by decide)]
  refine sym_unroll hE hS ?_
  conv => whnf
  refine sym_drawn hS (by kernel_rfl) ?_
  conv => whnf
  rw [show IntKind.i64.wrap (1 + 1) = 2 from wrapI (by decide) (by decide)]
  refine sym_unroll hE hS ?_
  conv => whnf
  refine sym_pureW hC (product2 a0 a1 h0.1.2 h1.1.2) ?_
  conv => whnf
  refine sym_pureW hC (product2 b0 b1 h0.2.2 h1.2.2) ?_
  conv => whnf
  refine sym_pure hC (reduced_pure (1 * a0 * a1) (1 * b0 * b1) (by omega) (by omega) hp) ?_
  conv => whnf
  exact ⟨_, rfl, Wk.refl _⟩

theorem rTurns2 (a0 b0 a1 b1 : Nat) (h0 : (1 ≤ a0 ∧ a0 ≤ 60) ∧ (1 ≤ b0 ∧ b0 ≤ 60)) (h1 : (1 ≤ a1 ∧ a1 ≤ 60) ∧ (1 ≤ b1 ∧ b1 ≤ 60)) : Pure prog 40 [.lst [nv a0, nv b0, nv a1, nv b1] 2 .no] (fv (Int.ofNat ((1 * a0 * a1) / Nat.gcd (1 * a0 * a1) (1 * b0 * b1))) (Int.ofNat ((1 * b0 * b1) / Nat.gcd (1 * a0 * a1) (1 * b0 * b1)))) := by
  refine pure_sym hE rfl ⟨⟨⟨trivial, trivial, trivial, trivial, trivial⟩, fun _ h => nomatch h⟩, trivial⟩ ⟨trivial, trivial, trivial⟩ fun S q pc hS hq hC hE => ?_
  have q1 : 1 * a0 * a1 ≤ 60 * 60 := Nat.mul_le_mul (show 1 * a0 ≤ 60 by omega) (by omega)
  have p1 : 1 * b0 * b1 ≤ 60 * 60 := Nat.mul_le_mul (show 1 * b0 ≤ 60 by omega) (by omega)
  have hp : 1 ≤ 1 * b0 * b1 := by
    have r1 : 1 ≤ 1 * b0 * b1 := Nat.mul_pos (show 0 < 1 * b0 by omega) (by omega)
    omega
  conv => whnf
  refine sym_unroll hE hS ?_
  conv => whnf
  refine sym_drawn hS (by kernel_rfl) ?_
  conv => whnf
  rw [show IntKind.i64.wrap (0 + 1) = 1 from wrapI (by decide) (by decide), mul1N (a := a0) (by omega), mul1N (a := b0) (by omega)]
  refine sym_unroll hE hS ?_
  conv => whnf
  refine sym_drawn hS (by kernel_rfl) ?_
  conv => whnf
  rw [show IntKind.i64.wrap (1 + 1) = 2 from wrapI (by decide) (by decide), mulN (a := 1 * a0) (b := a1) (by omega), mulN (a := 1 * b0) (b := b1) (by omega)]
  refine sym_unroll hE hS ?_
  conv => whnf
  refine sym_pure hC (rReduced_pure (1 * a0 * a1) (1 * b0 * b1) (by omega) (by omega) hp) ?_
  conv => whnf
  exact ⟨_, rfl, Wk.refl _⟩

theorem turns3 (a0 b0 a1 b1 a2 b2 : Nat) (h0 : (1 ≤ a0 ∧ a0 ≤ 60) ∧ (1 ≤ b0 ∧ b0 ≤ 60)) (h1 : (1 ≤ a1 ∧ a1 ≤ 60) ∧ (1 ≤ b1 ∧ b1 ≤ 60)) (h2 : (1 ≤ a2 ∧ a2 ≤ 60) ∧ (1 ≤ b2 ∧ b2 ≤ 60)) : Pure prog 81 [.lst [nv a0, nv b0, nv a1, nv b1, nv a2, nv b2] 3 .no] (fv (Int.ofNat ((1 * a0 * a1 * a2) / Nat.gcd (1 * a0 * a1 * a2) (1 * b0 * b1 * b2))) (Int.ofNat ((1 * b0 * b1 * b2) / Nat.gcd (1 * a0 * a1 * a2) (1 * b0 * b1 * b2)))) := by
  refine pure_sym hE rfl ⟨⟨⟨trivial, trivial, trivial, trivial, trivial, trivial, trivial⟩, fun _ h => nomatch h⟩, trivial⟩ ⟨trivial, trivial, trivial⟩ fun S q pc hS hq hC hE => ?_
  have q1 : 1 * a0 * a1 ≤ 60 * 60 := Nat.mul_le_mul (show 1 * a0 ≤ 60 by omega) (by omega)
  have q2 : 1 * a0 * a1 * a2 ≤ 3600 * 60 := Nat.mul_le_mul (show 1 * a0 * a1 ≤ 3600 by omega) (by omega)
  have p1 : 1 * b0 * b1 ≤ 60 * 60 := Nat.mul_le_mul (show 1 * b0 ≤ 60 by omega) (by omega)
  have p2 : 1 * b0 * b1 * b2 ≤ 3600 * 60 := Nat.mul_le_mul (show 1 * b0 * b1 ≤ 3600 by omega) (by omega)
  have hp : 1 ≤ 1 * b0 * b1 * b2 := by
    have r1 : 1 ≤ 1 * b0 * b1 := Nat.mul_pos (show 0 < 1 * b0 by omega) (by omega)
    have r2 : 1 ≤ 1 * b0 * b1 * b2 := Nat.mul_pos (show 0 < 1 * b0 * b1 by omega) (by omega)
    omega
  conv => whnf
  refine sym_unroll hE hS ?_
  conv => whnf
  refine sym_drawn hS (by kernel_rfl) ?_
  conv => whnf
  rw [show IntKind.i64.wrap (0 + 1) = 1 from wrapI (by decide) (by decide)]
  refine sym_unroll hE hS ?_
  conv => whnf
  refine sym_drawn hS (by kernel_rfl) ?_
  conv => whnf
  rw [show IntKind.i64.wrap (1 + 1) = 2 from wrapI (by decide) (by decide)]
  refine sym_unroll hE hS ?_
  conv => whnf
  refine sym_drawn hS (by kernel_rfl) ?_
  conv => whnf
  rw [show IntKind.i64.wrap (2 + 1) = 3 from wrapI (by decide) (by decide)]
  refine sym_unroll hE hS ?_
  conv => whnf
  refine sym_pureW hC (product3 a0 a1 a2 h0.1.2 h1.1.2 h2.1.2) ?_
  conv => whnf
  refine sym_pureW hC (product3 b0 b1 b2 h0.2.2 h1.2.2 h2.2.2) ?_
  conv => whnf
  refine sym_pure hC (reduced_pure (1 * a0 * a1 * a2) (1 * b0 * b1 * b2) (by omega) (by omega) hp) ?_
  conv => whnf
  exact ⟨_, rfl, Wk.refl _⟩

theorem rTurns3 (a0 b0 a1 b1 a2 b2 : Nat) (h0 : (1 ≤ a0 ∧ a0 ≤ 60) ∧ (1 ≤ b0 ∧ b0 ≤ 60)) (h1 : (1 ≤ a1 ∧ a1 ≤ 60) ∧ (1 ≤ b1 ∧ b1 ≤ 60)) (h2 : (1 ≤ a2 ∧ a2 ≤ 60) ∧ (1 ≤ b2 ∧ b2 ≤ 60)) : Pure prog 40 [.lst [nv a0, nv b0, nv a1, nv b1, nv a2, nv b2] 3 .no] (fv (Int.ofNat ((1 * a0 * a1 * a2) / Nat.gcd (1 * a0 * a1 * a2) (1 * b0 * b1 * b2))) (Int.ofNat ((1 * b0 * b1 * b2) / Nat.gcd (1 * a0 * a1 * a2) (1 * b0 * b1 * b2)))) := by
  refine pure_sym hE rfl ⟨⟨⟨trivial, trivial, trivial, trivial, trivial, trivial, trivial⟩, fun _ h => nomatch h⟩, trivial⟩ ⟨trivial, trivial, trivial⟩ fun S q pc hS hq hC hE => ?_
  have q1 : 1 * a0 * a1 ≤ 60 * 60 := Nat.mul_le_mul (show 1 * a0 ≤ 60 by omega) (by omega)
  have q2 : 1 * a0 * a1 * a2 ≤ 3600 * 60 := Nat.mul_le_mul (show 1 * a0 * a1 ≤ 3600 by omega) (by omega)
  have p1 : 1 * b0 * b1 ≤ 60 * 60 := Nat.mul_le_mul (show 1 * b0 ≤ 60 by omega) (by omega)
  have p2 : 1 * b0 * b1 * b2 ≤ 3600 * 60 := Nat.mul_le_mul (show 1 * b0 * b1 ≤ 3600 by omega) (by omega)
  have hp : 1 ≤ 1 * b0 * b1 * b2 := by
    have r1 : 1 ≤ 1 * b0 * b1 := Nat.mul_pos (show 0 < 1 * b0 by omega) (by omega)
    have r2 : 1 ≤ 1 * b0 * b1 * b2 := Nat.mul_pos (show 0 < 1 * b0 * b1 by omega) (by omega)
    omega
  conv => whnf
  refine sym_unroll hE hS ?_
  conv => whnf
  refine sym_drawn hS (by kernel_rfl) ?_
  conv => whnf
  rw [show IntKind.i64.wrap (0 + 1) = 1 from wrapI (by decide) (by decide), mul1N (a := a0) (by omega), mul1N (a := b0) (by omega)]
  refine sym_unroll hE hS ?_
  conv => whnf
  refine sym_drawn hS (by kernel_rfl) ?_
  conv => whnf
  rw [show IntKind.i64.wrap (1 + 1) = 2 from wrapI (by decide) (by decide), mulN (a := 1 * a0) (b := a1) (by omega), mulN (a := 1 * b0) (b := b1) (by omega)]
  refine sym_unroll hE hS ?_
  conv => whnf
  refine sym_drawn hS (by kernel_rfl) ?_
  conv => whnf
  rw [show IntKind.i64.wrap (2 + 1) = 3 from wrapI (by decide) (by decide), mulN (a := 1 * a0 * a1) (b := a2) (by omega), mulN (a := 1 * b0 * b1) (b := b2) (by omega)]
  refine sym_unroll hE hS ?_
  conv => whnf
  refine sym_pure hC (rReduced_pure (1 * a0 * a1 * a2) (1 * b0 * b1 * b2) (by omega) (by omega) hp) ?_
  conv => whnf
  exact ⟨_, rfl, Wk.refl _⟩

end Go.Abs.Seat

/-! Lists of pairs as arguments: trains, and what is none. -/
namespace Go.Abs.Seat
open Go Go.Abs Go.Proofs.Tryz
set_option maxRecDepth 100000
set_option maxHeartbeats 4000000
attribute [local irreducible] IntKind.wrap pEq

def flat : List (Int × Int) → List AV
  | [] => []
  | p :: r => iv p.1 :: iv p.2 :: flat r
/-- A list of pairs, as it comes in. -/
abbrev pv (l : List (Int × Int)) : AV := .lst (flat l) l.length .no

theorem flat_len : ∀ l, (flat l).length = l.length * 2
  | [] => rfl
  | p :: r => by simp only [flat, List.length_cons, flat_len r]; omega
theorem flat_no : ∀ l, Lives noL (flat l)
  | [] => trivial
  | _ :: r => ⟨trivial, trivial, flat_no r⟩
theorem pv_no (l : List (Int × Int)) : Live noL (pv l) := ⟨flat_no l, fun _ h => nomatch h⟩

/-- A train of k pairs, which turns its hand by x / y. -/
structure TV (v : AV) (k x y : Nat) : Prop where
  sh : ∃ xs, v = .lst xs k .no ∧ Lives noL xs
  k1 : 1 ≤ k ∧ k ≤ 3
  isT : Pure prog 63 [v] (.bool true)
  rT : Pure prog 18 [v] (.bool true)
  tu : Pure prog 81 [v] (fv (Int.ofNat x) (Int.ofNat y))
  rtu : Pure prog 40 [v] (fv (Int.ofNat x) (Int.ofNat y))
  bx : 1 ≤ x ∧ x ≤ 216000
  by_ : 1 ≤ y ∧ y ≤ 216000
  g : Nat.gcd x y = 1
/-- No train. -/
structure TN (v : AV) (k : Nat) : Prop where
  sh : v = .nils ∧ k = 0 ∨ ∃ xs, v = .lst xs k .no ∧ Lives noL xs
  isT : Pure prog 63 [v] (.bool false)
  rT : k ≤ 8 → Pure prog 18 [v] (.bool false)

theorem isTrain_nils : Pure prog 63 [.nils] (.bool false) := by
  refine pure_sym hE rfl ⟨trivial, trivial⟩ trivial fun S q pc hS hq hC hE => ?_
  conv => whnf
  refine sym_pure hC (in_pure 0 1 3) ?_
  conv => whnf
  exact ⟨_, rfl, Wk.refl _⟩
theorem rTrain_nils : Pure prog 18 [.nils] (.bool false) := by
  refine pure_sym hE rfl ⟨trivial, trivial⟩ trivial fun S q pc hS hq hC hE => ?_
  conv => whnf
  refine sym_unroll hE hS ?_
  conv => whnf
  refine sym_pure hC (rin_pure 0 1 3) ?_
  conv => whnf
  exact ⟨_, rfl, Wk.refl _⟩
theorem isTrain_out (xs : List AV) (k : Nat) (hl : Lives noL xs) (h : ¬ (1 ≤ k ∧ k ≤ 3)) : Pure prog 63 [.lst xs k .no] (.bool false) := by
  refine pure_sym hE rfl ⟨⟨hl, fun _ h => nomatch h⟩, trivial⟩ trivial fun S q pc hS hq hC hE => ?_
  conv => whnf
  refine sym_pure hC (in_pure _ 1 3) ?_
  rw [decide_eq_false (show ¬ ((1 : Int) ≤ ((k : Nat) : Int) ∧ ((k : Nat) : Int) ≤ 3) by omega)]
  conv => whnf
  exact ⟨_, rfl, Wk.refl _⟩

theorem tn_nils : TN .nils 0 := ⟨.inl ⟨rfl, rfl⟩, isTrain_nils, fun _ => rTrain_nils⟩

theorem tth_nat {a b : Int} (h : tth a ∧ tth b) : ∃ x y : Nat, a = Int.ofNat x ∧ b = Int.ofNat y ∧ ((1 ≤ x ∧ x ≤ 60) ∧ (1 ≤ y ∧ y ≤ 60)) := by
  obtain ⟨⟨h1, h2⟩, h3, h4⟩ := h
  refine ⟨a.toNat, b.toNat, ?_, ?_, ?_⟩
  · show a = ((a.toNat : Nat) : Int); omega
  · show b = ((b.toNat : Nat) : Int); omega
  · omega

theorem red_le {a b : Nat} (ha : 1 ≤ a ∧ a ≤ 216000) (hb : 1 ≤ b ∧ b ≤ 216000) :
    (1 ≤ a / Nat.gcd a b ∧ a / Nat.gcd a b ≤ 216000) ∧ (1 ≤ b / Nat.gcd a b ∧ b / Nat.gcd a b ≤ 216000) ∧ Nat.gcd (a / Nat.gcd a b) (b / Nat.gcd a b) = 1 := by
  have hg : 1 ≤ Nat.gcd a b := gcd_pos_r hb.1
  have h1 : Nat.gcd a b ≤ a := Nat.le_of_dvd (by omega) (Nat.gcd_dvd_left a b)
  have h2 : Nat.gcd a b ≤ b := Nat.le_of_dvd (by omega) (Nat.gcd_dvd_right a b)
  have h3 := red_gcd (n := a) hb.1
  have h4 : a / Nat.gcd a b ≤ a := Nat.div_le_self _ _
  have h5 : b / Nat.gcd a b ≤ b := Nat.div_le_self _ _
  have h6 : 1 ≤ a / Nat.gcd a b := Nat.div_pos h1 (by omega)
  exact ⟨⟨h6, by omega⟩, ⟨h3.2, by omega⟩, h3.1⟩

/-- Every list is a train or none. -/
theorem train_or (l : List (Int × Int)) : (∃ x y, TV (pv l) l.length x y) ∨ TN (pv l) l.length := by
  by_cases hk : 1 ≤ l.length ∧ l.length ≤ 3
  · match l, hk with
    | [(a0, b0)], _ =>
      by_cases hg : gd [(a0, b0)]
      · left
        have i := isTrain1 a0 b0
        have r := rTrain1 a0 b0
        rw [decide_eq_true hg] at i r
        obtain ⟨x0, y0, rfl, rfl, h0⟩ := tth_nat hg.1
        have b := red_le (a := 1 * x0) (b := 1 * y0) (by omega) (by omega)
        exact ⟨_, _, ⟨_, rfl, flat_no _⟩, ⟨Nat.le_of_ble_eq_true rfl, Nat.le_of_ble_eq_true rfl⟩, i, r, turns1 x0 y0 h0, rTurns1 x0 y0 h0, b.1, b.2.1, b.2.2⟩
      · right
        have i := isTrain1 a0 b0
        have r := rTrain1 a0 b0
        rw [decide_eq_false hg] at i r
        exact ⟨.inr ⟨_, rfl, flat_no _⟩, i, fun _ => r⟩
    | [(a0, b0), (a1, b1)], _ =>
      by_cases hg : gd [(a0, b0), (a1, b1)]
      · left
        have i := isTrain2 a0 b0 a1 b1
        have r := rTrain2 a0 b0 a1 b1
        rw [decide_eq_true hg] at i r
        obtain ⟨x0, y0, rfl, rfl, h0⟩ := tth_nat hg.1
        obtain ⟨x1, y1, rfl, rfl, h1⟩ := tth_nat hg.2.1
        have q1 : 1 * x0 * x1 ≤ 60 * 60 := Nat.mul_le_mul (show 1 * x0 ≤ 60 by omega) (by omega)
        have q2 : 1 * y0 * y1 ≤ 60 * 60 := Nat.mul_le_mul (show 1 * y0 ≤ 60 by omega) (by omega)
        have p1 : 1 ≤ 1 * x0 * x1 := Nat.mul_pos (show 0 < 1 * x0 by omega) (by omega)
        have p2 : 1 ≤ 1 * y0 * y1 := Nat.mul_pos (show 0 < 1 * y0 by omega) (by omega)
        have b := red_le (a := 1 * x0 * x1) (b := 1 * y0 * y1) (by omega) (by omega)
        exact ⟨_, _, ⟨_, rfl, flat_no _⟩, ⟨Nat.le_of_ble_eq_true rfl, Nat.le_of_ble_eq_true rfl⟩, i, r, turns2 x0 y0 x1 y1 h0 h1, rTurns2 x0 y0 x1 y1 h0 h1, b.1, b.2.1, b.2.2⟩
      · right
        have i := isTrain2 a0 b0 a1 b1
        have r := rTrain2 a0 b0 a1 b1
        rw [decide_eq_false hg] at i r
        exact ⟨.inr ⟨_, rfl, flat_no _⟩, i, fun _ => r⟩
    | [(a0, b0), (a1, b1), (a2, b2)], _ =>
      by_cases hg : gd [(a0, b0), (a1, b1), (a2, b2)]
      · left
        have i := isTrain3 a0 b0 a1 b1 a2 b2
        have r := rTrain3 a0 b0 a1 b1 a2 b2
        rw [decide_eq_true hg] at i r
        obtain ⟨x0, y0, rfl, rfl, h0⟩ := tth_nat hg.1
        obtain ⟨x1, y1, rfl, rfl, h1⟩ := tth_nat hg.2.1
        obtain ⟨x2, y2, rfl, rfl, h2⟩ := tth_nat hg.2.2.1
        have q1 : 1 * x0 * x1 ≤ 60 * 60 := Nat.mul_le_mul (show 1 * x0 ≤ 60 by omega) (by omega)
        have q2 : 1 * y0 * y1 ≤ 60 * 60 := Nat.mul_le_mul (show 1 * y0 ≤ 60 by omega) (by omega)
        have q3 : 1 * x0 * x1 * x2 ≤ 60 * 60 * 60 := Nat.mul_le_mul q1 (by omega)
        have q4 : 1 * y0 * y1 * y2 ≤ 60 * 60 * 60 := Nat.mul_le_mul q2 (by omega)
        have p1 : 1 ≤ 1 * x0 * x1 := Nat.mul_pos (show 0 < 1 * x0 by omega) (by omega)
        have p2 : 1 ≤ 1 * y0 * y1 := Nat.mul_pos (show 0 < 1 * y0 by omega) (by omega)
        have p3 : 1 ≤ 1 * x0 * x1 * x2 := Nat.mul_pos p1 (by omega)
        have p4 : 1 ≤ 1 * y0 * y1 * y2 := Nat.mul_pos p2 (by omega)
        have b := red_le (a := 1 * x0 * x1 * x2) (b := 1 * y0 * y1 * y2) (by omega) (by omega)
        exact ⟨_, _, ⟨_, rfl, flat_no _⟩, ⟨Nat.le_of_ble_eq_true rfl, Nat.le_of_ble_eq_true rfl⟩, i, r, turns3 x0 y0 x1 y1 x2 y2 h0 h1 h2, rTurns3 x0 y0 x1 y1 x2 y2 h0 h1 h2, b.1, b.2.1, b.2.2⟩
      · right
        have i := isTrain3 a0 b0 a1 b1 a2 b2
        have r := rTrain3 a0 b0 a1 b1 a2 b2
        rw [decide_eq_false hg] at i r
        exact ⟨.inr ⟨_, rfl, flat_no _⟩, i, fun _ => r⟩
  · right
    refine ⟨.inr ⟨_, rfl, flat_no _⟩, isTrain_out _ _ (flat_no l) hk, fun h8 => ?_⟩
    match l, h8 with
    | [], _ => exact rTrain0
    | [_], _ => exact absurd ⟨Nat.le_of_ble_eq_true rfl, Nat.le_of_ble_eq_true rfl⟩ hk
    | [_, _], _ => exact absurd ⟨Nat.le_of_ble_eq_true rfl, Nat.le_of_ble_eq_true rfl⟩ hk
    | [_, _, _], _ => exact absurd ⟨Nat.le_of_ble_eq_true rfl, Nat.le_of_ble_eq_true rfl⟩ hk
    | [(a0, b0), (a1, b1), (a2, b2), (a3, b3)], _ => exact rTrain4 ..
    | [(a0, b0), (a1, b1), (a2, b2), (a3, b3), (a4, b4)], _ => exact rTrain5 ..
    | [(a0, b0), (a1, b1), (a2, b2), (a3, b3), (a4, b4), (a5, b5)], _ => exact rTrain6 ..
    | [(a0, b0), (a1, b1), (a2, b2), (a3, b3), (a4, b4), (a5, b5), (a6, b6)], _ => exact rTrain7 ..
    | [(a0, b0), (a1, b1), (a2, b2), (a3, b3), (a4, b4), (a5, b5), (a6, b6), (a7, b7)], _ => exact rTrain8 ..
    | _ :: _ :: _ :: _ :: _ :: _ :: _ :: _ :: _ :: _, h8 => simp only [List.length_cons] at h8; omega
end Go.Abs.Seat

/-! Which one of two trains is nearer. -/
namespace Go.Abs.Seat
open Go Go.Abs Go.Proofs.Tryz
set_option maxRecDepth 100000
set_option maxHeartbeats 4000000
attribute [local irreducible] IntKind.wrap pEq

theorem maxI_neg {a b : Nat} (h1 : a < 4611686018427387904) (h2 : b < 4611686018427387904) :
    maxI (Int.ofNat a - Int.ofNat b) (IntKind.i64.wrap (0 - (Int.ofNat a - Int.ofNat b))) = Int.ofNat (gapN a b) := by
  rw [wrapI (by show _ ≤ (0 : Int) - ((a : Int) - (b : Int)); omega) (by show (0 : Int) - ((a : Int) - (b : Int)) < _; omega)]
  unfold maxI gapN
  show (if (0 : Int) - ((a : Int) - (b : Int)) > (a : Int) - (b : Int) then (0 : Int) - ((a : Int) - (b : Int)) else (a : Int) - (b : Int)) = (((a - b) + (b - a) : Nat) : Int)
  split <;> omega

theorem distance_pure (x y n d : Nat) (h1 : x * d < 4611686018427387904) (h2 : n * y < 4611686018427387904) :
    Pure prog 101 [fv (Int.ofNat x) (Int.ofNat y), fv (Int.ofNat n) (Int.ofNat d)] (fv (Int.ofNat (gapN (x * d) (n * y))) (Int.ofNat y)) := by
  refine pure_sym hE rfl ⟨⟨trivial, trivial, trivial⟩, ⟨trivial, trivial, trivial⟩, trivial⟩ ⟨trivial, trivial, trivial⟩ fun S q pc hS hq hC hE => ?_
  conv => whnf
  refine sym_pure hC (compare_pure x y n d h1 h2) ?_
  conv => whnf
  rw [maxI_neg h1 h2]
  exact ⟨_, rfl, Wk.refl _⟩

theorem isNaN_pure (a : Int) : Pure prog 124 [iv a] (.bool false) := by
  refine pure_sym hE rfl ⟨trivial, trivial⟩ trivial fun S q pc hS hq hC hE => ?_
  conv => whnf
  exact ⟨_, rfl, wkb (by rw [bne_self_eq_false])⟩

/-- How two numbers stand. -/
def ordI (a b : Int) : Int := if a < b then -1 else if b < a then 1 else 0

theorem cmp_pure (a b : Int) : Pure prog 74 [iv a, iv b] (iv (ordI a b)) := by
  refine pure_sym hE rfl ⟨trivial, trivial, trivial⟩ trivial fun S q pc hS hq hC hE => ?_
  conv => whnf
  refine sym_pure hC (isNaN_pure a) ?_
  conv => whnf
  refine sym_pure hC (isNaN_pure b) ?_
  conv => whnf
  by_cases h1 : a < b
  · rw [show decide (a < b) = true from decide_eq_true h1]
    conv => whnf
    exact ⟨_, rfl, by rw [show ordI a b = -1 from if_pos h1]; exact Wk.refl _⟩
  · rw [show decide (a < b) = false from decide_eq_false h1]
    conv => whnf
    by_cases h2 : b < a
    · rw [show decide (a > b) = true from decide_eq_true h2]
      conv => whnf
      exact ⟨_, rfl, by rw [show ordI a b = 1 from (if_neg h1).trans (if_pos h2)]; exact Wk.refl _⟩
    · rw [show decide (a > b) = false from decide_eq_false h2]
      conv => whnf
      exact ⟨_, rfl, by rw [show ordI a b = 0 from (if_neg h1).trans (if_neg h2)]; exact Wk.refl _⟩
end Go.Abs.Seat
