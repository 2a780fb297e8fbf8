/-
  The law TrainKeeps.
-/
import Derived.Test.YtpjclnoehlflcaaGreatDoorT11
/-! The law TrainKeeps. -/
namespace Go.Abs.Seat
open Go Go.Abs Go.Proofs.Tryz
set_option maxRecDepth 100000
set_option maxHeartbeats 4000000
attribute [local irreducible] IntKind.wrap pEq

theorem and5 {a b c e f : Bool} {q r s t : Prop} (h1 : b = true ↔ q) (h2 : c = true ↔ r) (h3 : e = true ↔ s) (h4 : f = true ↔ t) : (a && b && c && e && f) = true ↔ (a = true ∧ q ∧ r ∧ s ∧ t) := by
  rw [← h1, ← h2, ← h3, ← h4]; cases a <;> cases b <;> cases c <;> cases e <;> cases f <;> simp

theorem brief_pure {w z : AV} {f s : List Int} (hf : IL w f) (hs : IL z s) : ∃ b, Pure prog 15 [w, z] (.bool b) ∧ (b = true ↔ (f.length ≤ 10 ∧ s.length ≤ 10)) := by
  refine ⟨decide (f.length ≤ 10 ∧ s.length ≤ 10), ?_, decide_eq_true_iff⟩
  have lw := hf.no
  have lz := hs.no
  rcases hf with ⟨rfl, rfl⟩ | rfl <;> rcases hs with ⟨rfl, rfl⟩ | rfl
  · refine pure_sym hE rfl (by repeat' (first | exact trivial | assumption | exact flat_no _ | exact (fun _ h => nomatch h) | apply And.intro)) (by repeat' (first | exact trivial | assumption | exact flat_no _ | exact (fun _ h => nomatch h) | apply And.intro)) fun S q pc hS hq hC hE => ?_
    conv => whnf
    exact ⟨_, rfl, Wk.refl _⟩
  · refine pure_sym hE rfl (by repeat' (first | exact trivial | assumption | exact flat_no _ | exact (fun _ h => nomatch h) | apply And.intro)) (by repeat' (first | exact trivial | assumption | exact flat_no _ | exact (fun _ h => nomatch h) | apply And.intro)) fun S q pc hS hq hC hE => ?_
    conv => whnf
    exact ⟨_, rfl, wkb (decide_eq_decide.2 (by simp only [List.length_nil]; omega))⟩
  · refine pure_sym hE rfl (by repeat' (first | exact trivial | assumption | exact flat_no _ | exact (fun _ h => nomatch h) | apply And.intro)) (by repeat' (first | exact trivial | assumption | exact flat_no _ | exact (fun _ h => nomatch h) | apply And.intro)) fun S q pc hS hq hC hE => ?_
    conv => whnf
    by_cases h : f.length ≤ 10
    · rw [show decide ((f.length : Int) ≤ 10) = true from decide_eq_true (by omega)]
      conv => whnf
      exact ⟨_, rfl, wkb (decide_eq_true ⟨h, Nat.zero_le _⟩).symm⟩
    · rw [show decide ((f.length : Int) ≤ 10) = false from decide_eq_false (by omega)]
      conv => whnf
      exact ⟨_, rfl, wkb (decide_eq_false fun k => h k.1).symm⟩
  · refine pure_sym hE rfl (by repeat' (first | exact trivial | assumption | exact flat_no _ | exact (fun _ h => nomatch h) | apply And.intro)) (by repeat' (first | exact trivial | assumption | exact flat_no _ | exact (fun _ h => nomatch h) | apply And.intro)) fun S q pc hS hq hC hE => ?_
    conv => whnf
    by_cases h : f.length ≤ 10
    · rw [show decide ((f.length : Int) ≤ 10) = true from decide_eq_true (by omega)]
      conv => whnf
      exact ⟨_, rfl, wkb (decide_eq_decide.2 (by omega))⟩
    · rw [show decide ((f.length : Int) ≤ 10) = false from decide_eq_false (by omega)]
      conv => whnf
      exact ⟨_, rfl, wkb (decide_eq_false fun k => h k.1).symm⟩

section
variable {v : AV} {k : Nat} {b bF bE bS bN bL : Bool} {n d u m : Int} {w z : AV} {f s : List Int}

theorem shown_no (hv : TS v k b) (hf : IL w f) (hs : IL z s) (iF : bF = true ↔ isF n d) (pe : Pure prog 66 [w] (.bool bE)) (ps : Pure prog 80 [w, z] (.bool bS)) (iN : bN = true ↔ (0 ≤ u ∧ u ≤ 10000))
    (h : (b && bF && bE && bS && bN) = false) : Pure prog 26 [v, fv n d, w, z, iv u] (.tup [iv 0, iv 2]) := by
  have lv := hv.no
  have lw := hf.no
  have lz := hs.no
  have iv := hv.isT
  have pF := isFraction_pure n d
  have pN := isTurn_pure u
  rw [show decide (isF n d) = bF by cases bF with | true => exact decide_eq_true (iF.1 rfl) | false => exact decide_eq_false fun e => nomatch iF.2 e] at pF
  rw [show decide (0 ≤ u ∧ u ≤ 10000) = bN by cases bN with | true => exact decide_eq_true (iN.1 rfl) | false => exact decide_eq_false fun e => nomatch iN.2 e] at pN
  rcases hv.sh with ⟨rfl, _⟩ | ⟨xs, rfl, _⟩ <;> rcases hf with ⟨rfl, rfl⟩ | rfl <;> rcases hs with ⟨rfl, rfl⟩ | rfl
  all_goals
    refine pure_sym hE rfl (by repeat' (first | exact trivial | assumption | exact flat_no _ | exact (fun _ h => nomatch h) | apply And.intro)) (by repeat' (first | exact trivial | assumption | exact flat_no _ | exact (fun _ h => nomatch h) | apply And.intro)) fun S q pc hS hq hC hE => ?_
    conv => whnf
    refine sym_pure hC (iv) ?_
    conv => whnf
    cases b
    · conv => whnf
      exact ⟨_, rfl, Wk.refl _⟩
    · conv => whnf
      refine sym_pure hC (pF) ?_
      conv => whnf
      cases bF
      · conv => whnf
        exact ⟨_, rfl, Wk.refl _⟩
      · conv => whnf
        refine sym_pure hC (pe) ?_
        conv => whnf
        cases bE
        · conv => whnf
          exact ⟨_, rfl, Wk.refl _⟩
        · conv => whnf
          refine sym_pure hC (ps) ?_
          conv => whnf
          cases bS
          · conv => whnf
            exact ⟨_, rfl, Wk.refl _⟩
          · conv => whnf
            refine sym_pure hC (pN) ?_
            conv => whnf
            cases bN
            · conv => whnf
              exact ⟨_, rfl, Wk.refl _⟩
            · cases h

theorem keeps_no (hv : TS v k b) (hf : IL w f) (hs : IL z s) (iF : bF = true ↔ isF n d) (iL : bL = true ↔ (0 ≤ m ∧ m ≤ 10800)) (pe : Pure prog 66 [w] (.bool bE)) (ps : Pure prog 80 [w, z] (.bool bS)) (iN : bN = true ↔ (0 ≤ u ∧ u ≤ 10000))
    (h : (b && bF && bL && bE && bS && bN) = false) : Pure prog 29 [v, fv n d, iv m, w, z, iv u] (.tup [.bool false, iv 2]) := by
  have lv := hv.no
  have lw := hf.no
  have lz := hs.no
  have iv := hv.isT
  have pF := isFraction_pure n d
  have pL := isLimit_pure m
  have pN := isTurn_pure u
  rw [show decide (isF n d) = bF by cases bF with | true => exact decide_eq_true (iF.1 rfl) | false => exact decide_eq_false fun e => nomatch iF.2 e] at pF
  rw [show decide (0 ≤ u ∧ u ≤ 10000) = bN by cases bN with | true => exact decide_eq_true (iN.1 rfl) | false => exact decide_eq_false fun e => nomatch iN.2 e] at pN
  rw [show decide (0 ≤ m ∧ m ≤ 10800) = bL by cases bL with | true => exact decide_eq_true (iL.1 rfl) | false => exact decide_eq_false fun e => nomatch iL.2 e] at pL
  rcases hv.sh with ⟨rfl, _⟩ | ⟨xs, rfl, _⟩ <;> rcases hf with ⟨rfl, rfl⟩ | rfl <;> rcases hs with ⟨rfl, rfl⟩ | rfl
  all_goals
    refine pure_sym hE rfl (by repeat' (first | exact trivial | assumption | exact flat_no _ | exact (fun _ h => nomatch h) | apply And.intro)) (by repeat' (first | exact trivial | assumption | exact flat_no _ | exact (fun _ h => nomatch h) | apply And.intro)) fun S q pc hS hq hC hE => ?_
    conv => whnf
    refine sym_pure hC (iv) ?_
    conv => whnf
    cases b
    · conv => whnf
      exact ⟨_, rfl, Wk.refl _⟩
    · conv => whnf
      refine sym_pure hC (pF) ?_
      conv => whnf
      cases bF
      · conv => whnf
        exact ⟨_, rfl, Wk.refl _⟩
      · conv => whnf
        refine sym_pure hC (pL) ?_
        conv => whnf
        cases bL
        · conv => whnf
          exact ⟨_, rfl, Wk.refl _⟩
        · conv => whnf
          refine sym_pure hC (pe) ?_
          conv => whnf
          cases bE
          · conv => whnf
            exact ⟨_, rfl, Wk.refl _⟩
          · conv => whnf
            refine sym_pure hC (ps) ?_
            conv => whnf
            cases bS
            · conv => whnf
              exact ⟨_, rfl, Wk.refl _⟩
            · conv => whnf
              refine sym_pure hC (pN) ?_
              conv => whnf
              cases bN
              · conv => whnf
                exact ⟨_, rfl, Wk.refl _⟩
              · cases h
end

theorem keepsE_pure {v : AV} {k x y : Nat} (hv : TV v k x y) (n d m : Nat) (hn : n ≤ 50000) (hnd : 1 ≤ d ∧ d ≤ 50000) (hm : m ≤ 10800) {w z : AV} {f s : List Int} (hf : IL w f) (hs : IL z s) 
    (pf : Pure prog 66 [w] (.bool true)) (ps : Pure prog 80 [w, z] (.bool true)) (u : Nat) (hu : u ≤ 10000) {b : Bool} (pk : Pure prog 70 [nv (lastV x y n d m), w, z, nv u] (.bool b)) :
    Pure prog 29 [v, fv (Int.ofNat n) (Int.ofNat d), nv m, w, z, nv u] (.tup [.bool b, iv 0]) := by
  have lw := hf.no
  have lz := hs.no
  have bb := dif_le hn hnd.2 hv.bx.2 hv.by_.2
  have pw := wlasts_pure x y n d m bb.1 bb.2.1 bb.2.2 hm
  obtain ⟨xs, rfl, lx⟩ := hv.sh
  rcases hf with ⟨rfl, rfl⟩ | rfl <;> rcases hs with ⟨rfl, rfl⟩ | rfl
  all_goals
    refine pure_sym hE rfl (by repeat' (first | exact trivial | assumption | exact flat_no _ | exact (fun _ h => nomatch h) | apply And.intro)) (by repeat' (first | exact trivial | assumption | exact flat_no _ | exact (fun _ h => nomatch h) | apply And.intro)) fun S q pc hS hq hC hE => ?_
    conv => whnf
    refine sym_pure hC (hv.isT) ?_
    conv => whnf
    refine sym_pure hC (isFraction_pure _ _) ?_
    conv => whnf
    rw [decide_eq_true (isF_N hn hnd.1 hnd.2)]
    conv => whnf
    refine sym_pure hC (isLimit_pure _) ?_
    conv => whnf
    rw [decide_eq_true (rng (t := m) (m := 10800) (by omega))]
    conv => whnf
    refine sym_pure hC (pf) ?_
    conv => whnf
    refine sym_pure hC (ps) ?_
    conv => whnf
    refine sym_pure hC (isTurn_pure _) ?_
    conv => whnf
    rw [decide_eq_true (rng (t := u) (m := 10000) (by omega))]
    conv => whnf
    refine sym_pure hC (wrongBy_pure hv n d hn hnd) ?_
    conv => whnf
    refine sym_pure hC (pw) ?_
    conv => whnf
    refine sym_pure hC (pk) ?_
    conv => whnf
    exact ⟨_, rfl, Wk.refl _⟩

section
variable {v : AV} {k : Nat} {b bF bE bS bN bL : Bool} {n d u m : Int} {w z : AV} {f s : List Int}
theorem keeps_b (hv : TS v k b) (hx : b = true → ∃ x y, TV v k x y) (hf : IL w f) (hs : IL z s) (iF : bF = true ↔ isF n d) (iL : bL = true ↔ (0 ≤ m ∧ m ≤ 10800)) (pe : Pure prog 66 [w] (.bool bE)) (ie : bE = true ↔ feOk f) (ps : Pure prog 80 [w, z] (.bool bS)) (is : bS = true ↔ seOk f.length s) (iN : bN = true ↔ (0 ≤ u ∧ u ≤ 10000)) :
    ∃ (r : Bool) (e : Int), Pure prog 29 [v, fv n d, iv m, w, z, iv u] (.tup [.bool r, iv e]) ∧ eith (b && bF && bE && bS && bN && bL) (e = 2 ∧ r = false) (e = 0 ∧ Pure prog 79 [v, fv n d, iv m, w, z, iv u] (.bool r)) := by
  rw [show (b && bF && bE && bS && bN && bL) = (b && bF && bL && bE && bS && bN) by cases b <;> cases bF <;> cases bL <;> cases bE <;> cases bS <;> cases bN <;> rfl]
  cases h : (b && bF && bL && bE && bS && bN) with
  | false => exact ⟨_, _, keeps_no hv hf hs iF iL pe ps iN h, rfl, rfl⟩
  | true =>
    simp only [Bool.and_eq_true] at h
    obtain ⟨⟨⟨⟨⟨rfl, rfl⟩, rfl⟩, rfl⟩, rfl⟩, rfl⟩ := h
    obtain ⟨x, y, tv⟩ := hx rfl
    obtain ⟨n, d, rfl, rfl, q1, q2, q3⟩ := isF_nat (iF.1 rfl)
    obtain ⟨u, rfl, q4⟩ := int_nat (iN.1 rfl)
    obtain ⟨m, rfl, q5⟩ := int_nat (iL.1 rfl)
    have hb := Classical.propDecidable (kp (lastV x y n d m) u 0 (days f s))
    have := keeps_both tv n d m q1 ⟨q2, q3⟩ (by omega) hf hs (ie.1 rfl) (is.1 rfl) u (by omega) (b := decide (kp (lastV x y n d m) u 0 (days f s))) decide_eq_true_iff
    exact ⟨_, _, keepsE_pure tv n d m q1 ⟨q2, q3⟩ (by omega) hf hs pe ps u (by omega) this.1, rfl, this.2⟩
end

end Go.Abs.Seat
