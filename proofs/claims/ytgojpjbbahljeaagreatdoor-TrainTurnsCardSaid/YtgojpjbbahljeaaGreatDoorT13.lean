/-
  After how many turns all wheels have made whole turns.
-/
import Derived.Test.YtgojpjbbahljeaaGreatDoorT11
/-! After how many turns all wheels have made whole turns. -/
namespace Go.Abs.Seat
open Go Go.Abs Go.Proofs.Tryz
set_option maxRecDepth 100000
set_option maxHeartbeats 4000000
attribute [local irreducible] pEq

theorem remz_f {a : Nat} (h : a = 0) : (Int.ofNat a != 0) = false := by subst h; rfl
theorem remz_t {a : Nat} (h : ¬ a = 0) : (Int.ofNat a != 0) = true := bne_iff_ne.2 (by show (a : Int) ≠ 0; omega)


theorem again1 {a0 b0 : Nat} {X1 : Int} {y1 : Nat} (hT : Pure prog 77 [.lst [nv a0, nv b0] 1 .no] (.bool true)) (h1 : Pure prog 78 [.lst [nv a0, nv b0] 1 .no] (fv X1 (Int.ofNat y1))) (q1 : Pure prog 73 [nv 1, nv y1] (nv 1)) (L1 : y1 ≤ 216000) :
    Pure prog 34 [.lst [nv a0, nv b0] 1 .no] (.tup [nv y1, iv 0]) := by
  refine pure_sym hE rfl (by repeat' (first | exact trivial | assumption | exact flat_no _ | exact (fun _ h => nomatch h) | apply And.intro)) (by repeat' (first | exact trivial | assumption | exact flat_no _ | exact (fun _ h => nomatch h) | apply And.intro)) fun S q pc hS hq hC hE => ?_
  conv => whnf
  refine sym_pure hC (hT) ?_
  conv => whnf
  refine sym_unroll hE hS ?_
  conv => whnf
  refine sym_pureW hC (h1) ?_
  conv => whnf
  refine sym_pure hC (q1) ?_
  conv => whnf
  rw [show IntKind.i64.wrap (Int.tdiv 1 (Int.ofNat 1)) = 1 from wrapI (by decide) (by decide), show IntKind.i64.wrap (1 * Int.ofNat y1) = Int.ofNat y1 from by rw [Int.one_mul]; exact wrapN (by omega)]
  rw [show IntKind.i64.wrap (0 + 1) = 1 from wrapI (by decide) (by decide)]
  refine sym_unroll hE hS ?_
  conv => whnf
  exact ⟨_, rfl, Wk.refl _⟩

theorem again2 {a0 b0 a1 b1 : Nat} {X1 X2 : Int} {y1 y2 g2 : Nat} (hT : Pure prog 77 [.lst [nv a0, nv b0, nv a1, nv b1] 2 .no] (.bool true)) (h1 : Pure prog 78 [.lst [nv a0, nv b0] 1 .no] (fv X1 (Int.ofNat y1))) (h2 : Pure prog 78 [.lst [nv a0, nv b0, nv a1, nv b1] 2 .no] (fv X2 (Int.ofNat y2))) (q1 : Pure prog 73 [nv 1, nv y1] (nv 1)) (q2 : Pure prog 73 [nv y1, nv y2] (nv g2)) (e2 : 1 ≤ g2) (L1 : y1 ≤ 216000) (L2 : (y1 / g2 * y2) ≤ 216000) :
    Pure prog 34 [.lst [nv a0, nv b0, nv a1, nv b1] 2 .no] (.tup [nv (y1 / g2 * y2), iv 0]) := by
  refine pure_sym hE rfl (by repeat' (first | exact trivial | assumption | exact flat_no _ | exact (fun _ h => nomatch h) | apply And.intro)) (by repeat' (first | exact trivial | assumption | exact flat_no _ | exact (fun _ h => nomatch h) | apply And.intro)) fun S q pc hS hq hC hE => ?_
  conv => whnf
  refine sym_pure hC (hT) ?_
  conv => whnf
  refine sym_unroll hE hS ?_
  conv => whnf
  refine sym_pureW hC (h1) ?_
  conv => whnf
  refine sym_pure hC (q1) ?_
  conv => whnf
  rw [show IntKind.i64.wrap (Int.tdiv 1 (Int.ofNat 1)) = 1 from wrapI (by decide) (by decide), show IntKind.i64.wrap (1 * Int.ofNat y1) = Int.ofNat y1 from by rw [Int.one_mul]; exact wrapN (by omega)]
  rw [show IntKind.i64.wrap (0 + 1) = 1 from wrapI (by decide) (by decide)]
  refine sym_unroll hE hS ?_
  conv => whnf
  refine sym_pureW hC (h2) ?_
  conv => whnf
  refine sym_pure hC (q2) ?_
  conv => whnf
  refine bool_true (ne0 e2) ?_
  conv => whnf
  rw [quoN (a := y1) (b := g2) (by omega), mulN (a := y1 / g2) (b := y2) (by omega)]
  rw [show IntKind.i64.wrap (1 + 1) = 2 from wrapI (by decide) (by decide)]
  refine sym_unroll hE hS ?_
  conv => whnf
  exact ⟨_, rfl, Wk.refl _⟩

theorem again3 {a0 b0 a1 b1 a2 b2 : Nat} {X1 X2 X3 : Int} {y1 y2 y3 g2 g3 : Nat} (hT : Pure prog 77 [.lst [nv a0, nv b0, nv a1, nv b1, nv a2, nv b2] 3 .no] (.bool true)) (h1 : Pure prog 78 [.lst [nv a0, nv b0] 1 .no] (fv X1 (Int.ofNat y1))) (h2 : Pure prog 78 [.lst [nv a0, nv b0, nv a1, nv b1] 2 .no] (fv X2 (Int.ofNat y2))) (h3 : Pure prog 78 [.lst [nv a0, nv b0, nv a1, nv b1, nv a2, nv b2] 3 .no] (fv X3 (Int.ofNat y3))) (q1 : Pure prog 73 [nv 1, nv y1] (nv 1)) (q2 : Pure prog 73 [nv y1, nv y2] (nv g2)) (e2 : 1 ≤ g2) (q3 : Pure prog 73 [nv (y1 / g2 * y2), nv y3] (nv g3)) (e3 : 1 ≤ g3) (L1 : y1 ≤ 216000) (L2 : (y1 / g2 * y2) ≤ 216000) (L3 : ((y1 / g2 * y2) / g3 * y3) ≤ 216000) :
    Pure prog 34 [.lst [nv a0, nv b0, nv a1, nv b1, nv a2, nv b2] 3 .no] (.tup [nv ((y1 / g2 * y2) / g3 * y3), iv 0]) := by
  refine pure_sym hE rfl (by repeat' (first | exact trivial | assumption | exact flat_no _ | exact (fun _ h => nomatch h) | apply And.intro)) (by repeat' (first | exact trivial | assumption | exact flat_no _ | exact (fun _ h => nomatch h) | apply And.intro)) fun S q pc hS hq hC hE => ?_
  conv => whnf
  refine sym_pure hC (hT) ?_
  conv => whnf
  refine sym_unroll hE hS ?_
  conv => whnf
  refine sym_pureW hC (h1) ?_
  conv => whnf
  refine sym_pure hC (q1) ?_
  conv => whnf
  rw [show IntKind.i64.wrap (Int.tdiv 1 (Int.ofNat 1)) = 1 from wrapI (by decide) (by decide), show IntKind.i64.wrap (1 * Int.ofNat y1) = Int.ofNat y1 from by rw [Int.one_mul]; exact wrapN (by omega)]
  rw [show IntKind.i64.wrap (0 + 1) = 1 from wrapI (by decide) (by decide)]
  refine sym_unroll hE hS ?_
  conv => whnf
  refine sym_pureW hC (h2) ?_
  conv => whnf
  refine sym_pure hC (q2) ?_
  conv => whnf
  refine bool_true (ne0 e2) ?_
  conv => whnf
  rw [quoN (a := y1) (b := g2) (by omega), mulN (a := y1 / g2) (b := y2) (by omega)]
  rw [show IntKind.i64.wrap (1 + 1) = 2 from wrapI (by decide) (by decide)]
  refine sym_unroll hE hS ?_
  conv => whnf
  refine sym_pureW hC (h3) ?_
  conv => whnf
  refine sym_pure hC (q3) ?_
  conv => whnf
  refine bool_true (ne0 e3) ?_
  conv => whnf
  rw [quoN (a := (y1 / g2 * y2)) (b := g3) (by omega), mulN (a := (y1 / g2 * y2) / g3) (b := y3) (by omega)]
  rw [show IntKind.i64.wrap (2 + 1) = 3 from wrapI (by decide) (by decide)]
  refine sym_unroll hE hS ?_
  conv => whnf
  exact ⟨_, rfl, Wk.refl _⟩

theorem rAgain1 {a0 b0 : Nat} {X1 : Int} {y1 : Nat} (h1 : Pure prog 36 [.lst [nv a0, nv b0] 1 .no] (fv X1 (Int.ofNat y1))) (q1 : Pure prog 76 [nv 1, nv y1] (nv 1)) (L1 : y1 ≤ 216000) :
    Pure prog 37 [.lst [nv a0, nv b0] 1 .no] (nv y1) := by
  refine pure_sym hE rfl (by repeat' (first | exact trivial | assumption | exact flat_no _ | exact (fun _ h => nomatch h) | apply And.intro)) (by repeat' (first | exact trivial | assumption | exact flat_no _ | exact (fun _ h => nomatch h) | apply And.intro)) fun S q pc hS hq hC hE => ?_
  conv => whnf
  refine sym_unroll hE hS ?_
  conv => whnf
  refine sym_pureW hC (h1) ?_
  conv => whnf
  refine sym_pure hC (q1) ?_
  conv => whnf
  rw [show IntKind.i64.wrap (Int.tdiv 1 (Int.ofNat 1)) = 1 from wrapI (by decide) (by decide), show IntKind.i64.wrap (1 * Int.ofNat y1) = Int.ofNat y1 from by rw [Int.one_mul]; exact wrapN (by omega)]
  rw [show IntKind.i64.wrap (0 + 1) = 1 from wrapI (by decide) (by decide)]
  refine sym_unroll hE hS ?_
  conv => whnf
  exact ⟨_, rfl, Wk.refl _⟩

theorem rAgain2 {a0 b0 a1 b1 : Nat} {X1 X2 : Int} {y1 y2 g2 : Nat} (h1 : Pure prog 36 [.lst [nv a0, nv b0] 1 .no] (fv X1 (Int.ofNat y1))) (h2 : Pure prog 36 [.lst [nv a0, nv b0, nv a1, nv b1] 2 .no] (fv X2 (Int.ofNat y2))) (q1 : Pure prog 76 [nv 1, nv y1] (nv 1)) (q2 : Pure prog 76 [nv y1, nv y2] (nv g2)) (e2 : 1 ≤ g2) (L1 : y1 ≤ 216000) (L2 : (y1 / g2 * y2) ≤ 216000) :
    Pure prog 37 [.lst [nv a0, nv b0, nv a1, nv b1] 2 .no] (nv (y1 / g2 * y2)) := by
  refine pure_sym hE rfl (by repeat' (first | exact trivial | assumption | exact flat_no _ | exact (fun _ h => nomatch h) | apply And.intro)) (by repeat' (first | exact trivial | assumption | exact flat_no _ | exact (fun _ h => nomatch h) | apply And.intro)) fun S q pc hS hq hC hE => ?_
  conv => whnf
  refine sym_unroll hE hS ?_
  conv => whnf
  refine sym_pureW hC (h1) ?_
  conv => whnf
  refine sym_pure hC (q1) ?_
  conv => whnf
  rw [show IntKind.i64.wrap (Int.tdiv 1 (Int.ofNat 1)) = 1 from wrapI (by decide) (by decide), show IntKind.i64.wrap (1 * Int.ofNat y1) = Int.ofNat y1 from by rw [Int.one_mul]; exact wrapN (by omega)]
  rw [show IntKind.i64.wrap (0 + 1) = 1 from wrapI (by decide) (by decide)]
  refine sym_unroll hE hS ?_
  conv => whnf
  refine sym_pureW hC (h2) ?_
  conv => whnf
  refine sym_pure hC (q2) ?_
  conv => whnf
  refine bool_true (ne0 e2) ?_
  conv => whnf
  rw [quoN (a := y1) (b := g2) (by omega), mulN (a := y1 / g2) (b := y2) (by omega)]
  rw [show IntKind.i64.wrap (1 + 1) = 2 from wrapI (by decide) (by decide)]
  refine sym_unroll hE hS ?_
  conv => whnf
  exact ⟨_, rfl, Wk.refl _⟩

theorem rAgain3 {a0 b0 a1 b1 a2 b2 : Nat} {X1 X2 X3 : Int} {y1 y2 y3 g2 g3 : Nat} (h1 : Pure prog 36 [.lst [nv a0, nv b0] 1 .no] (fv X1 (Int.ofNat y1))) (h2 : Pure prog 36 [.lst [nv a0, nv b0, nv a1, nv b1] 2 .no] (fv X2 (Int.ofNat y2))) (h3 : Pure prog 36 [.lst [nv a0, nv b0, nv a1, nv b1, nv a2, nv b2] 3 .no] (fv X3 (Int.ofNat y3))) (q1 : Pure prog 76 [nv 1, nv y1] (nv 1)) (q2 : Pure prog 76 [nv y1, nv y2] (nv g2)) (e2 : 1 ≤ g2) (q3 : Pure prog 76 [nv (y1 / g2 * y2), nv y3] (nv g3)) (e3 : 1 ≤ g3) (L1 : y1 ≤ 216000) (L2 : (y1 / g2 * y2) ≤ 216000) (L3 : ((y1 / g2 * y2) / g3 * y3) ≤ 216000) :
    Pure prog 37 [.lst [nv a0, nv b0, nv a1, nv b1, nv a2, nv b2] 3 .no] (nv ((y1 / g2 * y2) / g3 * y3)) := by
  refine pure_sym hE rfl (by repeat' (first | exact trivial | assumption | exact flat_no _ | exact (fun _ h => nomatch h) | apply And.intro)) (by repeat' (first | exact trivial | assumption | exact flat_no _ | exact (fun _ h => nomatch h) | apply And.intro)) fun S q pc hS hq hC hE => ?_
  conv => whnf
  refine sym_unroll hE hS ?_
  conv => whnf
  refine sym_pureW hC (h1) ?_
  conv => whnf
  refine sym_pure hC (q1) ?_
  conv => whnf
  rw [show IntKind.i64.wrap (Int.tdiv 1 (Int.ofNat 1)) = 1 from wrapI (by decide) (by decide), show IntKind.i64.wrap (1 * Int.ofNat y1) = Int.ofNat y1 from by rw [Int.one_mul]; exact wrapN (by omega)]
  rw [show IntKind.i64.wrap (0 + 1) = 1 from wrapI (by decide) (by decide)]
  refine sym_unroll hE hS ?_
  conv => whnf
  refine sym_pureW hC (h2) ?_
  conv => whnf
  refine sym_pure hC (q2) ?_
  conv => whnf
  refine bool_true (ne0 e2) ?_
  conv => whnf
  rw [quoN (a := y1) (b := g2) (by omega), mulN (a := y1 / g2) (b := y2) (by omega)]
  rw [show IntKind.i64.wrap (1 + 1) = 2 from wrapI (by decide) (by decide)]
  refine sym_unroll hE hS ?_
  conv => whnf
  refine sym_pureW hC (h3) ?_
  conv => whnf
  refine sym_pure hC (q3) ?_
  conv => whnf
  refine bool_true (ne0 e3) ?_
  conv => whnf
  rw [quoN (a := (y1 / g2 * y2)) (b := g3) (by omega), mulN (a := (y1 / g2 * y2) / g3) (b := y3) (by omega)]
  rw [show IntKind.i64.wrap (2 + 1) = 3 from wrapI (by decide) (by decide)]
  refine sym_unroll hE hS ?_
  conv => whnf
  exact ⟨_, rfl, Wk.refl _⟩

theorem whole1 {a0 b0 t : Nat} (h0 : (1 ≤ a0 ∧ a0 ≤ 60) ∧ (1 ≤ b0 ∧ b0 ≤ 60)) (ht : t ≤ 216000) {b : Bool} (hb : b = true ↔ ((t * a0) % (1 * b0) = 0)) : Pure prog 38 [.lst [nv a0, nv b0] 1 .no, nv t] (.bool b) := by
  have m1 : t * a0 ≤ 12960000 := Nat.le_trans (Nat.mul_le_mul (show t ≤ 216000 by omega) h0.1.2) (by omega)
  have d1 : 1 ≤ 1 * b0 ∧ 1 * b0 ≤ 60 := ⟨Nat.mul_pos (show 0 < 1 by omega) (by omega), Nat.le_trans (Nat.mul_le_mul (show 1 ≤ 1 by omega) h0.2.2) (by omega)⟩
  refine pure_sym hE rfl (by repeat' (first | exact trivial | assumption | exact flat_no _ | exact (fun _ h => nomatch h) | apply And.intro)) (by repeat' (first | exact trivial | assumption | exact flat_no _ | exact (fun _ h => nomatch h) | apply And.intro)) fun S q pc hS hq hC hE => ?_
  conv => whnf
  refine sym_unroll hE hS ?_
  conv => whnf
  refine sym_drawn hS (by kernel_rfl) ?_
  conv => whnf
  rw [mulN (a := t) (b := a0) (by omega), mul1N (a := b0) (by omega)]
  conv => whnf
  refine bool_true (ne0 d1.1) ?_
  conv => whnf
  rw [tmodN]
  by_cases c1 : (t * a0) % (1 * b0) = 0
  · rw [show (Int.ofNat ((t * a0) % (1 * b0)) != 0) = false from remz_f c1]
    conv => whnf
    refine sym_unroll hE hS ?_
    conv => whnf
    exact ⟨_, rfl, wkb (btrue hb c1).symm⟩
  · rw [show (Int.ofNat ((t * a0) % (1 * b0)) != 0) = true from remz_t c1]
    conv => whnf
    exact ⟨_, rfl, wkb (bfalse hb fun q => c1 q).symm⟩

theorem whole2 {a0 b0 a1 b1 t : Nat} (h0 : (1 ≤ a0 ∧ a0 ≤ 60) ∧ (1 ≤ b0 ∧ b0 ≤ 60)) (h1 : (1 ≤ a1 ∧ a1 ≤ 60) ∧ (1 ≤ b1 ∧ b1 ≤ 60)) (ht : t ≤ 216000) {b : Bool} (hb : b = true ↔ ((t * a0) % (1 * b0) = 0 ∧ (t * a0 * a1) % (1 * b0 * b1) = 0)) : Pure prog 38 [.lst [nv a0, nv b0, nv a1, nv b1] 2 .no, nv t] (.bool b) := by
  have m1 : t * a0 ≤ 12960000 := Nat.le_trans (Nat.mul_le_mul (show t ≤ 216000 by omega) h0.1.2) (by omega)
  have d1 : 1 ≤ 1 * b0 ∧ 1 * b0 ≤ 60 := ⟨Nat.mul_pos (show 0 < 1 by omega) (by omega), Nat.le_trans (Nat.mul_le_mul (show 1 ≤ 1 by omega) h0.2.2) (by omega)⟩
  have m2 : t * a0 * a1 ≤ 777600000 := Nat.le_trans (Nat.mul_le_mul (show t * a0 ≤ 12960000 by omega) h1.1.2) (by omega)
  have d2 : 1 ≤ 1 * b0 * b1 ∧ 1 * b0 * b1 ≤ 3600 := ⟨Nat.mul_pos (show 0 < 1 * b0 by omega) (by omega), Nat.le_trans (Nat.mul_le_mul (show 1 * b0 ≤ 60 by omega) h1.2.2) (by omega)⟩
  refine pure_sym hE rfl (by repeat' (first | exact trivial | assumption | exact flat_no _ | exact (fun _ h => nomatch h) | apply And.intro)) (by repeat' (first | exact trivial | assumption | exact flat_no _ | exact (fun _ h => nomatch h) | apply And.intro)) fun S q pc hS hq hC hE => ?_
  conv => whnf
  refine sym_unroll hE hS ?_
  conv => whnf
  refine sym_drawn hS (by kernel_rfl) ?_
  conv => whnf
  rw [mulN (a := t) (b := a0) (by omega), mul1N (a := b0) (by omega)]
  conv => whnf
  refine bool_true (ne0 d1.1) ?_
  conv => whnf
  rw [tmodN]
  by_cases c1 : (t * a0) % (1 * b0) = 0
  · rw [show (Int.ofNat ((t * a0) % (1 * b0)) != 0) = false from remz_f c1]
    conv => whnf
    refine sym_unroll hE hS ?_
    conv => whnf
    refine sym_drawn hS (by kernel_rfl) ?_
    conv => whnf
    rw [mulN (a := t * a0) (b := a1) (by omega), mulN (a := 1 * b0) (b := b1) (by omega)]
    conv => whnf
    refine bool_true (ne0 d2.1) ?_
    conv => whnf
    rw [tmodN]
    by_cases c2 : (t * a0 * a1) % (1 * b0 * b1) = 0
    · rw [show (Int.ofNat ((t * a0 * a1) % (1 * b0 * b1)) != 0) = false from remz_f c2]
      conv => whnf
      refine sym_unroll hE hS ?_
      conv => whnf
      exact ⟨_, rfl, wkb (btrue hb ⟨c1, c2⟩).symm⟩
    · rw [show (Int.ofNat ((t * a0 * a1) % (1 * b0 * b1)) != 0) = true from remz_t c2]
      conv => whnf
      exact ⟨_, rfl, wkb (bfalse hb fun q => c2 q.2).symm⟩
  · rw [show (Int.ofNat ((t * a0) % (1 * b0)) != 0) = true from remz_t c1]
    conv => whnf
    exact ⟨_, rfl, wkb (bfalse hb fun q => c1 q.1).symm⟩

theorem whole3 {a0 b0 a1 b1 a2 b2 t : Nat} (h0 : (1 ≤ a0 ∧ a0 ≤ 60) ∧ (1 ≤ b0 ∧ b0 ≤ 60)) (h1 : (1 ≤ a1 ∧ a1 ≤ 60) ∧ (1 ≤ b1 ∧ b1 ≤ 60)) (h2 : (1 ≤ a2 ∧ a2 ≤ 60) ∧ (1 ≤ b2 ∧ b2 ≤ 60)) (ht : t ≤ 216000) {b : Bool} (hb : b = true ↔ ((t * a0) % (1 * b0) = 0 ∧ (t * a0 * a1) % (1 * b0 * b1) = 0 ∧ (t * a0 * a1 * a2) % (1 * b0 * b1 * b2) = 0)) : Pure prog 38 [.lst [nv a0, nv b0, nv a1, nv b1, nv a2, nv b2] 3 .no, nv t] (.bool b) := by
  have m1 : t * a0 ≤ 12960000 := Nat.le_trans (Nat.mul_le_mul (show t ≤ 216000 by omega) h0.1.2) (by omega)
  have d1 : 1 ≤ 1 * b0 ∧ 1 * b0 ≤ 60 := ⟨Nat.mul_pos (show 0 < 1 by omega) (by omega), Nat.le_trans (Nat.mul_le_mul (show 1 ≤ 1 by omega) h0.2.2) (by omega)⟩
  have m2 : t * a0 * a1 ≤ 777600000 := Nat.le_trans (Nat.mul_le_mul (show t * a0 ≤ 12960000 by omega) h1.1.2) (by omega)
  have d2 : 1 ≤ 1 * b0 * b1 ∧ 1 * b0 * b1 ≤ 3600 := ⟨Nat.mul_pos (show 0 < 1 * b0 by omega) (by omega), Nat.le_trans (Nat.mul_le_mul (show 1 * b0 ≤ 60 by omega) h1.2.2) (by omega)⟩
  have m3 : t * a0 * a1 * a2 ≤ 46656000000 := Nat.le_trans (Nat.mul_le_mul (show t * a0 * a1 ≤ 777600000 by omega) h2.1.2) (by omega)
  have d3 : 1 ≤ 1 * b0 * b1 * b2 ∧ 1 * b0 * b1 * b2 ≤ 216000 := ⟨Nat.mul_pos (show 0 < 1 * b0 * b1 by omega) (by omega), Nat.le_trans (Nat.mul_le_mul (show 1 * b0 * b1 ≤ 3600 by omega) h2.2.2) (by omega)⟩
  refine pure_sym hE rfl (by repeat' (first | exact trivial | assumption | exact flat_no _ | exact (fun _ h => nomatch h) | apply And.intro)) (by repeat' (first | exact trivial | assumption | exact flat_no _ | exact (fun _ h => nomatch h) | apply And.intro)) fun S q pc hS hq hC hE => ?_
  conv => whnf
  refine sym_unroll hE hS ?_
  conv => whnf
  refine sym_drawn hS (by kernel_rfl) ?_
  conv => whnf
  rw [mulN (a := t) (b := a0) (by omega), mul1N (a := b0) (by omega)]
  conv => whnf
  refine bool_true (ne0 d1.1) ?_
  conv => whnf
  rw [tmodN]
  by_cases c1 : (t * a0) % (1 * b0) = 0
  · rw [show (Int.ofNat ((t * a0) % (1 * b0)) != 0) = false from remz_f c1]
    conv => whnf
    refine sym_unroll hE hS ?_
    conv => whnf
    refine sym_drawn hS (by kernel_rfl) ?_
    conv => whnf
    rw [mulN (a := t * a0) (b := a1) (by omega), mulN (a := 1 * b0) (b := b1) (by omega)]
    conv => whnf
    refine bool_true (ne0 d2.1) ?_
    conv => whnf
    rw [tmodN]
    by_cases c2 : (t * a0 * a1) % (1 * b0 * b1) = 0
    · rw [show (Int.ofNat ((t * a0 * a1) % (1 * b0 * b1)) != 0) = false from remz_f c2]
      conv => whnf
      refine sym_unroll hE hS ?_
      conv => whnf
      refine sym_drawn hS (by kernel_rfl) ?_
      conv => whnf
      rw [mulN (a := t * a0 * a1) (b := a2) (by omega), mulN (a := 1 * b0 * b1) (b := b2) (by omega)]
      conv => whnf
      refine bool_true (ne0 d3.1) ?_
      conv => whnf
      rw [tmodN]
      by_cases c3 : (t * a0 * a1 * a2) % (1 * b0 * b1 * b2) = 0
      · rw [show (Int.ofNat ((t * a0 * a1 * a2) % (1 * b0 * b1 * b2)) != 0) = false from remz_f c3]
        conv => whnf
        refine sym_unroll hE hS ?_
        conv => whnf
        exact ⟨_, rfl, wkb (btrue hb ⟨c1, c2, c3⟩).symm⟩
      · rw [show (Int.ofNat ((t * a0 * a1 * a2) % (1 * b0 * b1 * b2)) != 0) = true from remz_t c3]
        conv => whnf
        exact ⟨_, rfl, wkb (bfalse hb fun q => c3 q.2.2).symm⟩
    · rw [show (Int.ofNat ((t * a0 * a1) % (1 * b0 * b1)) != 0) = true from remz_t c2]
      conv => whnf
      exact ⟨_, rfl, wkb (bfalse hb fun q => c2 q.2.1).symm⟩
  · rw [show (Int.ofNat ((t * a0) % (1 * b0)) != 0) = true from remz_t c1]
    conv => whnf
    exact ⟨_, rfl, wkb (bfalse hb fun q => c1 q.1).symm⟩

end Go.Abs.Seat
