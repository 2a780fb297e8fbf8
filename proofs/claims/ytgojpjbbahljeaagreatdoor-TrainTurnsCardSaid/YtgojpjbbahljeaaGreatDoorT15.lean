/-
  Lists of pairs, with what Again tells.
-/
import Derived.Test.YtgojpjbbahljeaaGreatDoorT14
/-! Lists of pairs, with what Again tells. -/
namespace Go.Abs.Seat
open Go Go.Abs Go.Proofs.Tryz
set_option maxRecDepth 100000
set_option maxHeartbeats 4000000
attribute [local irreducible] pEq

/-- A list of pairs that comes in: nil or not. -/
def PL (v : AV) (l : List (Int × Int)) : Prop := v = .nils ∧ l = [] ∨ v = pv l
theorem PL.no {v : AV} {l : List (Int × Int)} (h : PL v l) : Live noL v := by
  rcases h with ⟨rfl, _⟩ | rfl
  · trivial
  · exact pv_no l

theorem aw_or (l : List (Int × Int)) : (∃ N, AW (pv l) N) ∨ TN (pv l) l.length := by
  by_cases hk : 1 ≤ l.length ∧ l.length ≤ 3
  · match l, hk with
    | [(a0, b0)], _ =>
      by_cases hg : gd [(a0, b0)]
      · left
        have i := isTrain1 a0 b0
        rw [decide_eq_true hg] at i
        obtain ⟨x0, y0, rfl, rfl, h0⟩ := tth_nat hg.1
        exact aw1 x0 y0 h0 i
      · right
        have i := isTrain1 a0 b0
        have r := rTrain1 a0 b0
        rw [decide_eq_false hg] at i r
        exact ⟨.inr ⟨_, rfl, flat_no _⟩, i, fun _ => r⟩
    | [(a0, b0), (a1, b1)], _ =>
      by_cases hg : gd [(a0, b0), (a1, b1)]
      · left
        have i := isTrain2 a0 b0 a1 b1
        rw [decide_eq_true hg] at i
        obtain ⟨x0, y0, rfl, rfl, h0⟩ := tth_nat hg.1
        obtain ⟨x1, y1, rfl, rfl, h1⟩ := tth_nat hg.2.1
        exact aw2 x0 y0 x1 y1 h0 h1 i
      · right
        have i := isTrain2 a0 b0 a1 b1
        have r := rTrain2 a0 b0 a1 b1
        rw [decide_eq_false hg] at i r
        exact ⟨.inr ⟨_, rfl, flat_no _⟩, i, fun _ => r⟩
    | [(a0, b0), (a1, b1), (a2, b2)], _ =>
      by_cases hg : gd [(a0, b0), (a1, b1), (a2, b2)]
      · left
        have i := isTrain3 a0 b0 a1 b1 a2 b2
        rw [decide_eq_true hg] at i
        obtain ⟨x0, y0, rfl, rfl, h0⟩ := tth_nat hg.1
        obtain ⟨x1, y1, rfl, rfl, h1⟩ := tth_nat hg.2.1
        obtain ⟨x2, y2, rfl, rfl, h2⟩ := tth_nat hg.2.2.1
        exact aw3 x0 y0 x1 y1 x2 y2 h0 h1 h2 i
      · right
        have i := isTrain3 a0 b0 a1 b1 a2 b2
        have r := rTrain3 a0 b0 a1 b1 a2 b2
        rw [decide_eq_false hg] at i r
        exact ⟨.inr ⟨_, rfl, flat_no _⟩, i, fun _ => r⟩
  · right
    rcases train_or l with ⟨x, y, h⟩ | h
    · exact absurd h.k1 hk
    · exact h

/-- A train with all that is known of it, or none. -/
theorem train_all {v : AV} {l : List (Int × Int)} (h : PL v l) : (∃ x y N, TV v l.length x y ∧ AW v N) ∨ TN v l.length := by
  rcases h with ⟨rfl, rfl⟩ | rfl
  · exact .inr tn_nils
  · rcases train_or l with ⟨x, y, h⟩ | h
    · rcases aw_or l with ⟨N, k⟩ | k
      · exact .inl ⟨x, y, N, h, k⟩
      · exact .inr k
    · exact .inr h

theorem turnsE_pure {v : AV} {k x y : Nat} (hv : TV v k x y) : ∃ b, Pure prog 33 [v] (.tup [fv (Int.ofNat x) (Int.ofNat y), .bool b, iv 0]) ∧ (b = decide (k % 2 = 0)) := by
  have k3 := hv.k1
  have h1 := hv.isT
  have h2 := hv.tu
  obtain ⟨xs, rfl, lx⟩ := hv.sh
  refine ⟨_, ?_, rfl⟩
  obtain rfl | rfl | rfl : k = 1 ∨ k = 2 ∨ k = 3 := by omega
  all_goals
    refine pure_sym hE rfl (by repeat' (first | exact trivial | assumption | exact flat_no _ | exact (fun _ h => nomatch h) | apply And.intro)) (by repeat' (first | exact trivial | assumption | exact flat_no _ | exact (fun _ h => nomatch h) | apply And.intro)) fun S q pc hS hq hC hE => ?_
    conv => whnf
    refine sym_pure hC (h1) ?_
    conv => whnf
    refine sym_pure hC (h2) ?_
    conv => whnf
    exact ⟨_, rfl, Wk.refl _⟩

theorem turnsE_no {v : AV} {k : Nat} (hv : TN v k) : Pure prog 33 [v] (.tup [fv 0 0, .bool false, iv 2]) := by
  have h1 := hv.isT
  have lv := hv.ts.no
  rcases hv.sh with ⟨rfl, _⟩ | ⟨xs, rfl, lx⟩
  all_goals
    refine pure_sym hE rfl (by repeat' (first | exact trivial | assumption | exact flat_no _ | exact (fun _ h => nomatch h) | apply And.intro)) (by repeat' (first | exact trivial | assumption | exact flat_no _ | exact (fun _ h => nomatch h) | apply And.intro)) fun S q pc hS hq hC hE => ?_
    conv => whnf
    refine sym_pure hC (h1) ?_
    conv => whnf
    exact ⟨_, rfl, Wk.refl _⟩
theorem againE_no {v : AV} {k : Nat} (hv : TN v k) : Pure prog 34 [v] (.tup [iv 0, iv 2]) := by
  have h1 := hv.isT
  have lv := hv.ts.no
  rcases hv.sh with ⟨rfl, _⟩ | ⟨xs, rfl, lx⟩
  all_goals
    refine pure_sym hE rfl (by repeat' (first | exact trivial | assumption | exact flat_no _ | exact (fun _ h => nomatch h) | apply And.intro)) (by repeat' (first | exact trivial | assumption | exact flat_no _ | exact (fun _ h => nomatch h) | apply And.intro)) fun S q pc hS hq hC hE => ?_
    conv => whnf
    refine sym_pure hC (h1) ?_
    conv => whnf
    exact ⟨_, rfl, Wk.refl _⟩
end Go.Abs.Seat
