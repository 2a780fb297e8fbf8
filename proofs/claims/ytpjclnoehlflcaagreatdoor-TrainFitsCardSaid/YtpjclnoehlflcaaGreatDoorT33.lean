/-
  Trains of a rule.
-/
import Derived.Test.YtpjclnoehlflcaaGreatDoorT32
/-! Trains of a rule. -/
namespace Go.Abs.Seat
noncomputable section
open Go Go.Abs Go.Proofs.Tryz
set_option maxRecDepth 100000
set_option maxHeartbeats 40000000
attribute [local irreducible] pEq

/-- All wheels are let in. -/
def okL (a b : Int) (l : List Int) : List (Int × Int) → Prop
  | [] => True
  | (x, y) :: r => cutP a b l x ∧ cutP a b l y ∧ okL a b l r
/-- A train of a rule. -/
def fitsP (a b p s : Int) (l : List Int) (L : List (Int × Int)) : Prop := manyP p s L.length ∧ okL a b l L ∧ sortedP L

theorem rFits1 {N : AV} {l : List Int} (h : IL N l) (hl : l.length < 4611686018427387904) (a b p s : Int) (hs : 1 ≤ s ∧ s ≤ 3) (a0 b0 : Int) {r : Bool} (hr : r = true ↔ fitsP a b p s l [(a0, b0)]) : Pure prog 33 [rv a b p s N, pv [(a0, b0)]] (.bool r) := by
  have lN := h.no
  have nx : ¬ fitsP a b p s l [(a0, b0)] → r = false := fun k => bfalse hr k
  have cp := cut_pure h hl a b p s
  have mp := many_pure h a b p s hs 1
  rcases h.cs with rfl | rfl
  all_goals
    refine pure_sym hE rfl (by repeat' (first | exact trivial | assumption | exact flat_no _ | exact (fun _ h => nomatch h) | apply And.intro)) (by repeat' (first | exact trivial | assumption | exact flat_no _ | exact (fun _ h => nomatch h) | apply And.intro)) fun S q pc hS hq hC hE => ?_
    conv => whnf
    refine sym_unroll hE hS ?_
    conv => whnf
    refine sym_pure hC (cp a0) ?_
    conv => whnf
    by_cases ha0 : cutP a b l a0
    case neg =>
      rw [decide_eq_false ha0]
      conv => whnf
      refine sym_drawn hS (by kernel_rfl) ?_
      conv => whnf
      rw [nx fun k => ha0 k.2.1.1]
      exact ⟨_, rfl, Wk.refl _⟩
    rw [decide_eq_true ha0]
    conv => whnf
    refine sym_pure hC (cp b0) ?_
    conv => whnf
    by_cases hb0 : cutP a b l b0
    case neg =>
      rw [decide_eq_false hb0]
      conv => whnf
      refine sym_drawn hS (by kernel_rfl) ?_
      conv => whnf
      rw [nx fun k => hb0 k.2.1.2.1]
      exact ⟨_, rfl, Wk.refl _⟩
    rw [decide_eq_true hb0]
    conv => whnf
    refine sym_drawn hS (by kernel_rfl) ?_
    conv => whnf
    refine sym_unroll hE hS ?_
    conv => whnf
    refine sym_pure hC (mp) ?_
    conv => whnf
    exact ⟨_, rfl, wkb (by
      by_cases hm : manyP p s 1
      · rw [decide_eq_true hm, hr.2 ⟨hm, ⟨ha0, hb0, trivial⟩, trivial⟩]
      · rw [decide_eq_false hm, nx fun k => hm k.1])⟩

theorem rFits2 {N : AV} {l : List Int} (h : IL N l) (hl : l.length < 4611686018427387904) (a b p s : Int) (hs : 1 ≤ s ∧ s ≤ 3) (a0 b0 a1 b1 : Int) {r : Bool} (hr : r = true ↔ fitsP a b p s l [(a0, b0), (a1, b1)]) : Pure prog 33 [rv a b p s N, pv [(a0, b0), (a1, b1)]] (.bool r) := by
  have lN := h.no
  have nx : ¬ fitsP a b p s l [(a0, b0), (a1, b1)] → r = false := fun k => bfalse hr k
  have cp := cut_pure h hl a b p s
  have mp := many_pure h a b p s hs 2
  rcases h.cs with rfl | rfl
  all_goals
    refine pure_sym hE rfl (by repeat' (first | exact trivial | assumption | exact flat_no _ | exact (fun _ h => nomatch h) | apply And.intro)) (by repeat' (first | exact trivial | assumption | exact flat_no _ | exact (fun _ h => nomatch h) | apply And.intro)) fun S q pc hS hq hC hE => ?_
    conv => whnf
    refine sym_unroll hE hS ?_
    conv => whnf
    refine sym_pure hC (cp a0) ?_
    conv => whnf
    by_cases ha0 : cutP a b l a0
    case neg =>
      rw [decide_eq_false ha0]
      conv => whnf
      refine sym_drawn hS (by kernel_rfl) ?_
      conv => whnf
      rw [nx fun k => ha0 k.2.1.1]
      exact ⟨_, rfl, Wk.refl _⟩
    rw [decide_eq_true ha0]
    conv => whnf
    refine sym_pure hC (cp b0) ?_
    conv => whnf
    by_cases hb0 : cutP a b l b0
    case neg =>
      rw [decide_eq_false hb0]
      conv => whnf
      refine sym_drawn hS (by kernel_rfl) ?_
      conv => whnf
      rw [nx fun k => hb0 k.2.1.2.1]
      exact ⟨_, rfl, Wk.refl _⟩
    rw [decide_eq_true hb0]
    conv => whnf
    refine sym_drawn hS (by kernel_rfl) ?_
    conv => whnf
    refine sym_unroll hE hS ?_
    conv => whnf
    refine sym_pure hC (cp a1) ?_
    conv => whnf
    by_cases ha1 : cutP a b l a1
    case neg =>
      rw [decide_eq_false ha1]
      conv => whnf
      refine sym_drawn hS (by kernel_rfl) ?_
      conv => whnf
      rw [nx fun k => ha1 k.2.1.2.2.1]
      exact ⟨_, rfl, Wk.refl _⟩
    rw [decide_eq_true ha1]
    conv => whnf
    refine sym_pure hC (cp b1) ?_
    conv => whnf
    by_cases hb1 : cutP a b l b1
    case neg =>
      rw [decide_eq_false hb1]
      conv => whnf
      refine sym_drawn hS (by kernel_rfl) ?_
      conv => whnf
      rw [nx fun k => hb1 k.2.1.2.2.2.1]
      exact ⟨_, rfl, Wk.refl _⟩
    rw [decide_eq_true hb1]
    conv => whnf
    refine sym_pure hC (before_pure a1 b1 a0 b0) ?_
    conv => whnf
    by_cases hs1 : ordP a1 b1 a0 b0 < 0
    case pos =>
      rw [decide_eq_true hs1]
      conv => whnf
      refine sym_drawn hS (by kernel_rfl) ?_
      conv => whnf
      rw [nx fun k => k.2.2.1 hs1]
      exact ⟨_, rfl, Wk.refl _⟩
    rw [decide_eq_false hs1]
    conv => whnf
    refine sym_drawn hS (by kernel_rfl) ?_
    conv => whnf
    refine sym_unroll hE hS ?_
    conv => whnf
    refine sym_pure hC (mp) ?_
    conv => whnf
    exact ⟨_, rfl, wkb (by
      by_cases hm : manyP p s 2
      · rw [decide_eq_true hm, hr.2 ⟨hm, ⟨ha0, hb0, ⟨ha1, hb1, trivial⟩⟩, ⟨hs1, trivial⟩⟩]
      · rw [decide_eq_false hm, nx fun k => hm k.1])⟩

theorem rFits3 {N : AV} {l : List Int} (h : IL N l) (hl : l.length < 4611686018427387904) (a b p s : Int) (hs : 1 ≤ s ∧ s ≤ 3) (a0 b0 a1 b1 a2 b2 : Int) {r : Bool} (hr : r = true ↔ fitsP a b p s l [(a0, b0), (a1, b1), (a2, b2)]) : Pure prog 33 [rv a b p s N, pv [(a0, b0), (a1, b1), (a2, b2)]] (.bool r) := by
  have lN := h.no
  have nx : ¬ fitsP a b p s l [(a0, b0), (a1, b1), (a2, b2)] → r = false := fun k => bfalse hr k
  have cp := cut_pure h hl a b p s
  have mp := many_pure h a b p s hs 3
  rcases h.cs with rfl | rfl
  all_goals
    refine pure_sym hE rfl (by repeat' (first | exact trivial | assumption | exact flat_no _ | exact (fun _ h => nomatch h) | apply And.intro)) (by repeat' (first | exact trivial | assumption | exact flat_no _ | exact (fun _ h => nomatch h) | apply And.intro)) fun S q pc hS hq hC hE => ?_
    conv => whnf
    refine sym_unroll hE hS ?_
    conv => whnf
    refine sym_pure hC (cp a0) ?_
    conv => whnf
    by_cases ha0 : cutP a b l a0
    case neg =>
      rw [decide_eq_false ha0]
      conv => whnf
      refine sym_drawn hS (by kernel_rfl) ?_
      conv => whnf
      rw [nx fun k => ha0 k.2.1.1]
      exact ⟨_, rfl, Wk.refl _⟩
    rw [decide_eq_true ha0]
    conv => whnf
    refine sym_pure hC (cp b0) ?_
    conv => whnf
    by_cases hb0 : cutP a b l b0
    case neg =>
      rw [decide_eq_false hb0]
      conv => whnf
      refine sym_drawn hS (by kernel_rfl) ?_
      conv => whnf
      rw [nx fun k => hb0 k.2.1.2.1]
      exact ⟨_, rfl, Wk.refl _⟩
    rw [decide_eq_true hb0]
    conv => whnf
    refine sym_drawn hS (by kernel_rfl) ?_
    conv => whnf
    refine sym_unroll hE hS ?_
    conv => whnf
    refine sym_pure hC (cp a1) ?_
    conv => whnf
    by_cases ha1 : cutP a b l a1
    case neg =>
      rw [decide_eq_false ha1]
      conv => whnf
      refine sym_drawn hS (by kernel_rfl) ?_
      conv => whnf
      rw [nx fun k => ha1 k.2.1.2.2.1]
      exact ⟨_, rfl, Wk.refl _⟩
    rw [decide_eq_true ha1]
    conv => whnf
    refine sym_pure hC (cp b1) ?_
    conv => whnf
    by_cases hb1 : cutP a b l b1
    case neg =>
      rw [decide_eq_false hb1]
      conv => whnf
      refine sym_drawn hS (by kernel_rfl) ?_
      conv => whnf
      rw [nx fun k => hb1 k.2.1.2.2.2.1]
      exact ⟨_, rfl, Wk.refl _⟩
    rw [decide_eq_true hb1]
    conv => whnf
    refine sym_pure hC (before_pure a1 b1 a0 b0) ?_
    conv => whnf
    by_cases hs1 : ordP a1 b1 a0 b0 < 0
    case pos =>
      rw [decide_eq_true hs1]
      conv => whnf
      refine sym_drawn hS (by kernel_rfl) ?_
      conv => whnf
      rw [nx fun k => k.2.2.1 hs1]
      exact ⟨_, rfl, Wk.refl _⟩
    rw [decide_eq_false hs1]
    conv => whnf
    refine sym_drawn hS (by kernel_rfl) ?_
    conv => whnf
    refine sym_unroll hE hS ?_
    conv => whnf
    refine sym_pure hC (cp a2) ?_
    conv => whnf
    by_cases ha2 : cutP a b l a2
    case neg =>
      rw [decide_eq_false ha2]
      conv => whnf
      refine sym_drawn hS (by kernel_rfl) ?_
      conv => whnf
      rw [nx fun k => ha2 k.2.1.2.2.2.2.1]
      exact ⟨_, rfl, Wk.refl _⟩
    rw [decide_eq_true ha2]
    conv => whnf
    refine sym_pure hC (cp b2) ?_
    conv => whnf
    by_cases hb2 : cutP a b l b2
    case neg =>
      rw [decide_eq_false hb2]
      conv => whnf
      refine sym_drawn hS (by kernel_rfl) ?_
      conv => whnf
      rw [nx fun k => hb2 k.2.1.2.2.2.2.2.1]
      exact ⟨_, rfl, Wk.refl _⟩
    rw [decide_eq_true hb2]
    conv => whnf
    refine sym_pure hC (before_pure a2 b2 a1 b1) ?_
    conv => whnf
    by_cases hs2 : ordP a2 b2 a1 b1 < 0
    case pos =>
      rw [decide_eq_true hs2]
      conv => whnf
      refine sym_drawn hS (by kernel_rfl) ?_
      conv => whnf
      rw [nx fun k => k.2.2.2.1 hs2]
      exact ⟨_, rfl, Wk.refl _⟩
    rw [decide_eq_false hs2]
    conv => whnf
    refine sym_drawn hS (by kernel_rfl) ?_
    conv => whnf
    refine sym_unroll hE hS ?_
    conv => whnf
    refine sym_pure hC (mp) ?_
    conv => whnf
    exact ⟨_, rfl, wkb (by
      by_cases hm : manyP p s 3
      · rw [decide_eq_true hm, hr.2 ⟨hm, ⟨ha0, hb0, ⟨ha1, hb1, ⟨ha2, hb2, trivial⟩⟩⟩, ⟨hs1, ⟨hs2, trivial⟩⟩⟩]
      · rw [decide_eq_false hm, nx fun k => hm k.1])⟩
end
end Go.Abs.Seat
