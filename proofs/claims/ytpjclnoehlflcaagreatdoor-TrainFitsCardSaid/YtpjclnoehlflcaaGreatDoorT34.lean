/-
  Trains of a rule: the program's.
-/
import Derived.Test.YtpjclnoehlflcaaGreatDoorT33
/-! Trains of a rule: the program's. -/
namespace Go.Abs.Seat
noncomputable section
open Go Go.Abs Go.Proofs.Tryz
set_option maxRecDepth 100000
set_option maxHeartbeats 40000000
attribute [local irreducible] pEq

theorem fits1 {N : AV} {l : List Int} (h : IL N l) (hl : l.length < 4611686018427387904) (a b : Nat) (p s : Int) (ho : rOk (Int.ofNat a) (Int.ofNat b) p s l) (hs0 : -9223372036854775808 ≤ s ∧ s < 9223372036854775808) (a0 b0 : Int) (iT : Pure prog 63 [pv [(a0, b0)]] (.bool true)) {r : Bool} (hr : r = true ↔ fitsP (Int.ofNat a) (Int.ofNat b) p s l [(a0, b0)]) : Pure prog 31 [rv (Int.ofNat a) (Int.ofNat b) p s N, pv [(a0, b0)]] (.tup [.bool r, iv 0]) := by
  have lN := h.no
  have nx : ¬ fitsP (Int.ofNat a) (Int.ofNat b) p s l [(a0, b0)] → r = false := fun k => bfalse hr k
  have iR := isRule_pure h hl (Int.ofNat a) (Int.ofNat b) p s hs0 (r := true) ⟨fun _ => ho, fun _ => rfl⟩
  have hab : a ≤ b := by have := ho.2.2.1; simp only [Int.ofNat_eq_natCast] at this; omega
  have hb60 : b ≤ 60 := by have := ho.2.1.2; simp only [Int.ofNat_eq_natCast] at this; omega
  have pr := ruled_pure h hl a b hab hb60 p s
  have hs := ho.2.2.2.2.1
  have tl := tth_len l a (b + 1 - a)
  have hc : ∀ x, x ∈ tth_l l a (b + 1 - a) ↔ cutP (Int.ofNat a) (Int.ofNat b) l x := fun x => by
    rw [tth_mem]; unfold cutP; simp only [Int.ofNat_eq_natCast]; constructor
    · rintro ⟨h1, h2, h3⟩; exact ⟨h3, h1, by omega⟩
    · rintro ⟨h1, h2, h3⟩; exact ⟨h2, by omega, h1⟩
  generalize tth_l l a (b + 1 - a) = T at pr tl hc
  obtain ⟨bL, lp, iL⟩ := dec_b (lets_pure h T (Int.ofNat a) (Int.ofNat b) p s hs 1)
  have hp : ∀ x, Pure prog 89 [ruv (Int.ofNat a) (Int.ofNat b) p s N (sv T), iv x] (.bool (decide (cutP (Int.ofNat a) (Int.ofNat b) l x))) := fun x => by
    have := has_pure h (Int.ofNat a) (Int.ofNat b) p s T (by omega) x
    rwa [show decide (x ∈ T) = decide (cutP (Int.ofNat a) (Int.ofNat b) l x) from decide_eq_decide.2 (hc x)] at this
  obtain ⟨bS, sp, iS⟩ := dec_b (sorted1 a0 b0)
  obtain ⟨ca0, ha0, ia0⟩ := dec_b (hp a0)
  obtain ⟨cb0, hb0, ib0⟩ := dec_b (hp b0)
  clear hp hc
  have lT := sv_no T
  rcases h.cs with rfl | rfl <;> rcases sv_cases T with ⟨_, eT⟩ | eT
  all_goals
    rw [eT] at pr lp lT ha0 hb0
    refine pure_sym hE rfl (by repeat' (first | exact trivial | assumption | exact flat_no _ | exact (fun _ h => nomatch h) | apply And.intro)) (by repeat' (first | exact trivial | assumption | exact flat_no _ | exact (fun _ h => nomatch h) | apply And.intro)) fun S q pc hS hq hC hE => ?_
    conv => whnf
    refine sym_pure hC (iR) ?_
    conv => whnf
    refine sym_pure hC (iT) ?_
    conv => whnf
    refine sym_pure hC (pr) ?_
    conv => whnf
    by_cases hk : ((1 : Nat) : Int) ≤ p
    case neg =>
      rw [show decide ((([(a0, b0)].length : Nat) : Int) ≤ p) = false from decide_eq_false hk]
      conv => whnf
      rw [nx fun k => hk k.1.1.2]
      exact ⟨_, rfl, Wk.refl _⟩
    rw [show decide ((([(a0, b0)].length : Nat) : Int) ≤ p) = true from decide_eq_true hk]
    conv => whnf
    refine sym_pure hC (lp) ?_
    conv => whnf
    cases bL
    case false =>
      conv => whnf
      rw [nx fun k => nomatch iL.2 k.1.2]
      exact ⟨_, rfl, Wk.refl _⟩
    conv => whnf
    refine sym_pure hC (sp) ?_
    conv => whnf
    cases bS
    case false =>
      conv => whnf
      rw [nx fun k => nomatch iS.2 k.2.2]
      exact ⟨_, rfl, Wk.refl _⟩
    conv => whnf
    refine sym_call hC ?_
    conv => whnf
    refine sym_inline hE hS ?_
    conv => whnf
    refine sym_call hC ?_
    conv => whnf
    refine sym_inline hE hS ?_
    conv => whnf
    refine sym_unroll hE hS ?_
    conv => whnf
    refine sym_call hC ?_
    conv => whnf
    refine sym_inline hE hS ?_
    conv => whnf
    refine sym_pure hC (ha0) ?_
    conv => whnf
    cases ca0
    case false =>
      conv => whnf
      rw [nx fun k => nomatch ia0.2 k.2.1.1]
      exact ⟨_, rfl, Wk.refl _⟩
    conv => whnf
    refine sym_pure hC (hb0) ?_
    conv => whnf
    cases cb0
    case false =>
      conv => whnf
      rw [nx fun k => nomatch ib0.2 k.2.1.2.1]
      exact ⟨_, rfl, Wk.refl _⟩
    conv => whnf
    refine sym_unroll hE hS ?_
    conv => whnf
    rw [hr.2 ⟨⟨⟨(show (1 : Int) ≤ ((1 : Nat) : Int) by decide), hk⟩, iL.1 rfl⟩, ⟨ia0.1 rfl, ib0.1 rfl, trivial⟩, iS.1 rfl⟩]
    exact ⟨_, rfl, Wk.refl _⟩

theorem fits2 {N : AV} {l : List Int} (h : IL N l) (hl : l.length < 4611686018427387904) (a b : Nat) (p s : Int) (ho : rOk (Int.ofNat a) (Int.ofNat b) p s l) (hs0 : -9223372036854775808 ≤ s ∧ s < 9223372036854775808) (a0 b0 a1 b1 : Int) (iT : Pure prog 63 [pv [(a0, b0), (a1, b1)]] (.bool true)) {r : Bool} (hr : r = true ↔ fitsP (Int.ofNat a) (Int.ofNat b) p s l [(a0, b0), (a1, b1)]) : Pure prog 31 [rv (Int.ofNat a) (Int.ofNat b) p s N, pv [(a0, b0), (a1, b1)]] (.tup [.bool r, iv 0]) := by
  have lN := h.no
  have nx : ¬ fitsP (Int.ofNat a) (Int.ofNat b) p s l [(a0, b0), (a1, b1)] → r = false := fun k => bfalse hr k
  have iR := isRule_pure h hl (Int.ofNat a) (Int.ofNat b) p s hs0 (r := true) ⟨fun _ => ho, fun _ => rfl⟩
  have hab : a ≤ b := by have := ho.2.2.1; simp only [Int.ofNat_eq_natCast] at this; omega
  have hb60 : b ≤ 60 := by have := ho.2.1.2; simp only [Int.ofNat_eq_natCast] at this; omega
  have pr := ruled_pure h hl a b hab hb60 p s
  have hs := ho.2.2.2.2.1
  have tl := tth_len l a (b + 1 - a)
  have hc : ∀ x, x ∈ tth_l l a (b + 1 - a) ↔ cutP (Int.ofNat a) (Int.ofNat b) l x := fun x => by
    rw [tth_mem]; unfold cutP; simp only [Int.ofNat_eq_natCast]; constructor
    · rintro ⟨h1, h2, h3⟩; exact ⟨h3, h1, by omega⟩
    · rintro ⟨h1, h2, h3⟩; exact ⟨h2, by omega, h1⟩
  generalize tth_l l a (b + 1 - a) = T at pr tl hc
  obtain ⟨bL, lp, iL⟩ := dec_b (lets_pure h T (Int.ofNat a) (Int.ofNat b) p s hs 2)
  have hp : ∀ x, Pure prog 89 [ruv (Int.ofNat a) (Int.ofNat b) p s N (sv T), iv x] (.bool (decide (cutP (Int.ofNat a) (Int.ofNat b) l x))) := fun x => by
    have := has_pure h (Int.ofNat a) (Int.ofNat b) p s T (by omega) x
    rwa [show decide (x ∈ T) = decide (cutP (Int.ofNat a) (Int.ofNat b) l x) from decide_eq_decide.2 (hc x)] at this
  obtain ⟨bS, sp, iS⟩ := dec_b (sorted2 a0 b0 a1 b1)
  obtain ⟨ca0, ha0, ia0⟩ := dec_b (hp a0)
  obtain ⟨cb0, hb0, ib0⟩ := dec_b (hp b0)
  obtain ⟨ca1, ha1, ia1⟩ := dec_b (hp a1)
  obtain ⟨cb1, hb1, ib1⟩ := dec_b (hp b1)
  clear hp hc
  have lT := sv_no T
  rcases h.cs with rfl | rfl <;> rcases sv_cases T with ⟨_, eT⟩ | eT
  all_goals
    rw [eT] at pr lp lT ha0 hb0 ha1 hb1
    refine pure_sym hE rfl (by repeat' (first | exact trivial | assumption | exact flat_no _ | exact (fun _ h => nomatch h) | apply And.intro)) (by repeat' (first | exact trivial | assumption | exact flat_no _ | exact (fun _ h => nomatch h) | apply And.intro)) fun S q pc hS hq hC hE => ?_
    conv => whnf
    refine sym_pure hC (iR) ?_
    conv => whnf
    refine sym_pure hC (iT) ?_
    conv => whnf
    refine sym_pure hC (pr) ?_
    conv => whnf
    by_cases hk : ((2 : Nat) : Int) ≤ p
    case neg =>
      rw [show decide ((([(a0, b0), (a1, b1)].length : Nat) : Int) ≤ p) = false from decide_eq_false hk]
      conv => whnf
      rw [nx fun k => hk k.1.1.2]
      exact ⟨_, rfl, Wk.refl _⟩
    rw [show decide ((([(a0, b0), (a1, b1)].length : Nat) : Int) ≤ p) = true from decide_eq_true hk]
    conv => whnf
    refine sym_pure hC (lp) ?_
    conv => whnf
    cases bL
    case false =>
      conv => whnf
      rw [nx fun k => nomatch iL.2 k.1.2]
      exact ⟨_, rfl, Wk.refl _⟩
    conv => whnf
    refine sym_pure hC (sp) ?_
    conv => whnf
    cases bS
    case false =>
      conv => whnf
      rw [nx fun k => nomatch iS.2 k.2.2]
      exact ⟨_, rfl, Wk.refl _⟩
    conv => whnf
    refine sym_call hC ?_
    conv => whnf
    refine sym_inline hE hS ?_
    conv => whnf
    refine sym_call hC ?_
    conv => whnf
    refine sym_inline hE hS ?_
    conv => whnf
    refine sym_unroll hE hS ?_
    conv => whnf
    refine sym_call hC ?_
    conv => whnf
    refine sym_inline hE hS ?_
    conv => whnf
    refine sym_pure hC (ha0) ?_
    conv => whnf
    cases ca0
    case false =>
      conv => whnf
      rw [nx fun k => nomatch ia0.2 k.2.1.1]
      exact ⟨_, rfl, Wk.refl _⟩
    conv => whnf
    refine sym_pure hC (hb0) ?_
    conv => whnf
    cases cb0
    case false =>
      conv => whnf
      rw [nx fun k => nomatch ib0.2 k.2.1.2.1]
      exact ⟨_, rfl, Wk.refl _⟩
    conv => whnf
    refine sym_unroll hE hS ?_
    conv => whnf
    refine sym_call hC ?_
    conv => whnf
    refine sym_inline hE hS ?_
    conv => whnf
    refine sym_pure hC (ha1) ?_
    conv => whnf
    cases ca1
    case false =>
      conv => whnf
      rw [nx fun k => nomatch ia1.2 k.2.1.2.2.1]
      exact ⟨_, rfl, Wk.refl _⟩
    conv => whnf
    refine sym_pure hC (hb1) ?_
    conv => whnf
    cases cb1
    case false =>
      conv => whnf
      rw [nx fun k => nomatch ib1.2 k.2.1.2.2.2.1]
      exact ⟨_, rfl, Wk.refl _⟩
    conv => whnf
    refine sym_unroll hE hS ?_
    conv => whnf
    rw [hr.2 ⟨⟨⟨(show (1 : Int) ≤ ((2 : Nat) : Int) by decide), hk⟩, iL.1 rfl⟩, ⟨ia0.1 rfl, ib0.1 rfl, ⟨ia1.1 rfl, ib1.1 rfl, trivial⟩⟩, iS.1 rfl⟩]
    exact ⟨_, rfl, Wk.refl _⟩

theorem fits3 {N : AV} {l : List Int} (h : IL N l) (hl : l.length < 4611686018427387904) (a b : Nat) (p s : Int) (ho : rOk (Int.ofNat a) (Int.ofNat b) p s l) (hs0 : -9223372036854775808 ≤ s ∧ s < 9223372036854775808) (a0 b0 a1 b1 a2 b2 : Int) (iT : Pure prog 63 [pv [(a0, b0), (a1, b1), (a2, b2)]] (.bool true)) {r : Bool} (hr : r = true ↔ fitsP (Int.ofNat a) (Int.ofNat b) p s l [(a0, b0), (a1, b1), (a2, b2)]) : Pure prog 31 [rv (Int.ofNat a) (Int.ofNat b) p s N, pv [(a0, b0), (a1, b1), (a2, b2)]] (.tup [.bool r, iv 0]) := by
  have lN := h.no
  have nx : ¬ fitsP (Int.ofNat a) (Int.ofNat b) p s l [(a0, b0), (a1, b1), (a2, b2)] → r = false := fun k => bfalse hr k
  have iR := isRule_pure h hl (Int.ofNat a) (Int.ofNat b) p s hs0 (r := true) ⟨fun _ => ho, fun _ => rfl⟩
  have hab : a ≤ b := by have := ho.2.2.1; simp only [Int.ofNat_eq_natCast] at this; omega
  have hb60 : b ≤ 60 := by have := ho.2.1.2; simp only [Int.ofNat_eq_natCast] at this; omega
  have pr := ruled_pure h hl a b hab hb60 p s
  have hs := ho.2.2.2.2.1
  have tl := tth_len l a (b + 1 - a)
  have hc : ∀ x, x ∈ tth_l l a (b + 1 - a) ↔ cutP (Int.ofNat a) (Int.ofNat b) l x := fun x => by
    rw [tth_mem]; unfold cutP; simp only [Int.ofNat_eq_natCast]; constructor
    · rintro ⟨h1, h2, h3⟩; exact ⟨h3, h1, by omega⟩
    · rintro ⟨h1, h2, h3⟩; exact ⟨h2, by omega, h1⟩
  generalize tth_l l a (b + 1 - a) = T at pr tl hc
  obtain ⟨bL, lp, iL⟩ := dec_b (lets_pure h T (Int.ofNat a) (Int.ofNat b) p s hs 3)
  have hp : ∀ x, Pure prog 89 [ruv (Int.ofNat a) (Int.ofNat b) p s N (sv T), iv x] (.bool (decide (cutP (Int.ofNat a) (Int.ofNat b) l x))) := fun x => by
    have := has_pure h (Int.ofNat a) (Int.ofNat b) p s T (by omega) x
    rwa [show decide (x ∈ T) = decide (cutP (Int.ofNat a) (Int.ofNat b) l x) from decide_eq_decide.2 (hc x)] at this
  obtain ⟨bS, sp, iS⟩ := dec_b (sorted3 a0 b0 a1 b1 a2 b2)
  obtain ⟨ca0, ha0, ia0⟩ := dec_b (hp a0)
  obtain ⟨cb0, hb0, ib0⟩ := dec_b (hp b0)
  obtain ⟨ca1, ha1, ia1⟩ := dec_b (hp a1)
  obtain ⟨cb1, hb1, ib1⟩ := dec_b (hp b1)
  obtain ⟨ca2, ha2, ia2⟩ := dec_b (hp a2)
  obtain ⟨cb2, hb2, ib2⟩ := dec_b (hp b2)
  clear hp hc
  have lT := sv_no T
  rcases h.cs with rfl | rfl <;> rcases sv_cases T with ⟨_, eT⟩ | eT
  all_goals
    rw [eT] at pr lp lT ha0 hb0 ha1 hb1 ha2 hb2
    refine pure_sym hE rfl (by repeat' (first | exact trivial | assumption | exact flat_no _ | exact (fun _ h => nomatch h) | apply And.intro)) (by repeat' (first | exact trivial | assumption | exact flat_no _ | exact (fun _ h => nomatch h) | apply And.intro)) fun S q pc hS hq hC hE => ?_
    conv => whnf
    refine sym_pure hC (iR) ?_
    conv => whnf
    refine sym_pure hC (iT) ?_
    conv => whnf
    refine sym_pure hC (pr) ?_
    conv => whnf
    by_cases hk : ((3 : Nat) : Int) ≤ p
    case neg =>
      rw [show decide ((([(a0, b0), (a1, b1), (a2, b2)].length : Nat) : Int) ≤ p) = false from decide_eq_false hk]
      conv => whnf
      rw [nx fun k => hk k.1.1.2]
      exact ⟨_, rfl, Wk.refl _⟩
    rw [show decide ((([(a0, b0), (a1, b1), (a2, b2)].length : Nat) : Int) ≤ p) = true from decide_eq_true hk]
    conv => whnf
    refine sym_pure hC (lp) ?_
    conv => whnf
    cases bL
    case false =>
      conv => whnf
      rw [nx fun k => nomatch iL.2 k.1.2]
      exact ⟨_, rfl, Wk.refl _⟩
    conv => whnf
    refine sym_pure hC (sp) ?_
    conv => whnf
    cases bS
    case false =>
      conv => whnf
      rw [nx fun k => nomatch iS.2 k.2.2]
      exact ⟨_, rfl, Wk.refl _⟩
    conv => whnf
    refine sym_call hC ?_
    conv => whnf
    refine sym_inline hE hS ?_
    conv => whnf
    refine sym_call hC ?_
    conv => whnf
    refine sym_inline hE hS ?_
    conv => whnf
    refine sym_unroll hE hS ?_
    conv => whnf
    refine sym_call hC ?_
    conv => whnf
    refine sym_inline hE hS ?_
    conv => whnf
    refine sym_pure hC (ha0) ?_
    conv => whnf
    cases ca0
    case false =>
      conv => whnf
      rw [nx fun k => nomatch ia0.2 k.2.1.1]
      exact ⟨_, rfl, Wk.refl _⟩
    conv => whnf
    refine sym_pure hC (hb0) ?_
    conv => whnf
    cases cb0
    case false =>
      conv => whnf
      rw [nx fun k => nomatch ib0.2 k.2.1.2.1]
      exact ⟨_, rfl, Wk.refl _⟩
    conv => whnf
    refine sym_unroll hE hS ?_
    conv => whnf
    refine sym_call hC ?_
    conv => whnf
    refine sym_inline hE hS ?_
    conv => whnf
    refine sym_pure hC (ha1) ?_
    conv => whnf
    cases ca1
    case false =>
      conv => whnf
      rw [nx fun k => nomatch ia1.2 k.2.1.2.2.1]
      exact ⟨_, rfl, Wk.refl _⟩
    conv => whnf
    refine sym_pure hC (hb1) ?_
    conv => whnf
    cases cb1
    case false =>
      conv => whnf
      rw [nx fun k => nomatch ib1.2 k.2.1.2.2.2.1]
      exact ⟨_, rfl, Wk.refl _⟩
    conv => whnf
    refine sym_unroll hE hS ?_
    conv => whnf
    refine sym_call hC ?_
    conv => whnf
    refine sym_inline hE hS ?_
    conv => whnf
    refine sym_pure hC (ha2) ?_
    conv => whnf
    cases ca2
    case false =>
      conv => whnf
      rw [nx fun k => nomatch ia2.2 k.2.1.2.2.2.2.1]
      exact ⟨_, rfl, Wk.refl _⟩
    conv => whnf
    refine sym_pure hC (hb2) ?_
    conv => whnf
    cases cb2
    case false =>
      conv => whnf
      rw [nx fun k => nomatch ib2.2 k.2.1.2.2.2.2.2.1]
      exact ⟨_, rfl, Wk.refl _⟩
    conv => whnf
    refine sym_unroll hE hS ?_
    conv => whnf
    rw [hr.2 ⟨⟨⟨(show (1 : Int) ≤ ((3 : Nat) : Int) by decide), hk⟩, iL.1 rfl⟩, ⟨ia0.1 rfl, ib0.1 rfl, ⟨ia1.1 rfl, ib1.1 rfl, ⟨ia2.1 rfl, ib2.1 rfl, trivial⟩⟩⟩, iS.1 rfl⟩]
    exact ⟨_, rfl, Wk.refl _⟩

end
end Go.Abs.Seat
