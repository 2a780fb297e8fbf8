/-
  What the program tells of a piece: trains, rates, how far off.
  Whether a list is a packing, as the program tells it.
  Packings, as the document tells them.
  New links: how far each is, which one is better.
-/
import Derived.Test.YtikikanopganaaaGreatDoorB16
import Derived.Test.YtikikanopganaaaGreatDoorU7
import Derived.Test.YtikikanopganaaaGreatDoorU10
import Derived.Test.YtikikanopganaaaGreatDoorU5
/-! What the program tells of a piece: trains, rates, how far off. -/
namespace Go.Abs.Seat
noncomputable section
open Go Go.Abs Go.Proofs.Tryz
set_option maxRecDepth 100000
set_option maxHeartbeats 40000000
attribute [local irreducible] IntKind.wrap pEq

structure pcN (N : List Lk) (H : List Nat) : Prop where
 ok : okN N
 l1 : 1 ≤ N.length
 l5 : N.length ≤ 5
 h1 : 1 ≤ H.length
 h4 : H.length ≤ 4
 hd : ∀ x, x ∈ H → 1 ≤ x ∧ x ≤ N.length
theorem ints_nat : ∀ (M : List Int), (∀ j, j < M.length → 0 ≤ gi M j) → ∃ H : List Nat, M = zl H
 | [], _ => ⟨[], rfl⟩
 |x :: r, h => by
  obtain ⟨H, e⟩ := ints_nat r fun j hj => h (j + 1) (by simpa using hj)
  have hx := h 0 (by simp)
  refine ⟨x.toNat :: H, ?_⟩
  rw [e]
  exact congrArg (· :: zl H) (toN hx).symm
theorem pcN.pc {N : List Lk} {H : List Nat} (h : pcN N H) : pcOk (cL N) (zl H) := by
 refine ⟨⟨by rw [cL_len]; exact ⟨h.l1, h.l5⟩, by rw [zl_len]; exact ⟨h.h1, h.h4⟩⟩, ⟨N, rfl, h.ok⟩, fun j hj => ?_⟩
 rw [zl_len] at hj
 rw [gi_zl H hj, cL_len]
 have := h.hd _ (gn_mem H hj)
 exact ⟨Int.ofNat_le.2 this.1, Int.ofNat_le.2 this.2⟩
end
end Go.Abs.Seat

/-! Whether a list is a packing, as the program tells it. -/
namespace Go.Abs.Seat
noncomputable section
open Go Go.Abs Go.Proofs.Tryz
set_option maxRecDepth 100000
set_option maxHeartbeats 40000000
attribute [local irreducible] IntKind.wrap pEq

theorem fits_nil (long saw : Int) (teeth : List Nat) : Pure prog 121 [iv long, iv saw, nl (zl teeth), .nils] (.bool true) := by
 have lT := ivs_no (zl teeth)
 refine pure_sym hE rfl (by repeat' (first | exact trivial | assumption | exact flat_no _ | exact (fun _ h => nomatch h) | apply And.intro)) (by repeat' (first | exact trivial | assumption | exact flat_no _ | exact (fun _ h => nomatch h) | apply And.intro)) fun S q pc hS hq hC hE => ?_
 conv => whnf
 refine sym_unroll hE hS ?_
 conv => whnf
 exact ⟨_, rfl, Wk.refl _⟩
def swOk (l s : Int) : Prop := (1 ≤ l ∧ l ≤ 500) ∧ 0 ≤ s ∧ s ≤ 9
instance (l s : Int) : Decidable (swOk l s) := instDecidableAnd
theorem isSaw_pure (l s : Int) : Pure prog 118 [iv l, iv s] (.bool (decide (swOk l s))) := by
 by_cases h1 : 1 ≤ l ∧ l ≤ 500
 ·have c1 : decide (1 ≤ l ∧ l ≤ 500) = true := decide_eq_true h1
  refine pure_sym hE rfl (by repeat' (first | exact trivial | assumption | exact flat_no _ | exact (fun _ h => nomatch h) | apply And.intro)) (by repeat' (first | exact trivial | assumption | exact flat_no _ | exact (fun _ h => nomatch h) | apply And.intro)) fun S q pc hS hq hC hE => ?_
  conv => whnf
  repeat ((first
   |refine ko_rT c1 ?_
   |refine ko_sF c1 ?_
   |refine plan_as (pick_t c1) ?_
   |refine bool_true c1 ?_
   |refine ko_rT (gd_tt c1) ?_
   |refine ko_sF (gd_tt c1) ?_
   |refine plan_as (pick_t (gd_tt c1)) ?_
   |refine bool_true (gd_tt c1) ?_
   |refine sym_pure hC (sin_pure l 1 500) ?_
   |refine sym_pure hC (sin_pure s 0 9) ?_
   |refine sym_drawn hS (by kernel_rfl) ?_); conv => whnf)
  exact ⟨_, rfl, wkb (by unfold swOk; simp [h1])⟩
 ·have c1 : decide (1 ≤ l ∧ l ≤ 500) = false := decide_eq_false h1
  refine pure_sym hE rfl (by repeat' (first | exact trivial | assumption | exact flat_no _ | exact (fun _ h => nomatch h) | apply And.intro)) (by repeat' (first | exact trivial | assumption | exact flat_no _ | exact (fun _ h => nomatch h) | apply And.intro)) fun S q pc hS hq hC hE => ?_
  conv => whnf
  repeat ((first
   |refine ko_sT c1 ?_
   |refine ko_rF c1 ?_
   |refine plan_as (pick_f c1) ?_
   |refine bool_false c1 ?_
   |refine ko_sT (gd_tf c1) ?_
   |refine ko_rF (gd_tf c1) ?_
   |refine plan_as (pick_f (gd_tf c1)) ?_
   |refine bool_false (gd_tf c1) ?_
   |refine sym_pure hC (sin_pure l 1 500) ?_
   |refine sym_drawn hS (by kernel_rfl) ?_); conv => whnf)
  exact ⟨_, rfl, wkb (by unfold swOk; simp [h1])⟩
def ordB : List Nat → Nat → Bool
 | [], _ => true
 |n :: r, m => if m < n then false else if n = m then ordB r (m + 1) else ordB r m
def plOk (k : Nat) (D : List Int) : Prop := D.length = k ∧ ∀ j, j < D.length → 0 ≤ gi D j ∧ gi D j < (k : Int)
instance (k : Nat) (D : List Int) : Decidable (plOk k D) := Classical.propDecidable _
theorem sPacks_no {x y : AV} {T D : List Int} (hx : IL x T) (hy : IL y D) (hT : T.length ≤ 10) (hD : D.length ≤ 10) {long saw : Int} (hc : ¬ (swOk long saw ∧ whOk T ∧ T ≠ [] ∧ D.length = T.length)) : Pure prog 56 [iv long, iv saw, x, y] (.tup [.bool false, iv 2]) := by
 have pA := areTeeth_pure hx (by omega)
 have lx := hx.no
 have ly := hy.no
 by_cases q1 : swOk long saw
 ·have c1 : (!decide (swOk long saw)) = false := nt_t (decide_eq_true q1)
  by_cases q2 : whOk T
  ·have c2 : (!decide (whOk T)) = false := nt_t (decide_eq_true q2)
   rcases hx with ⟨rfl, rfl⟩ | rfl
   ·rcases hy with ⟨rfl, rfl⟩ | rfl
    all_goals
     refine pure_sym hE rfl (by repeat' (first | exact trivial | assumption | exact flat_no _ | exact (fun _ h => nomatch h) | apply And.intro)) (by repeat' (first | exact trivial | assumption | exact flat_no _ | exact (fun _ h => nomatch h) | apply And.intro)) fun S q pc hS hq hC hE => ?_
     conv => whnf
     repeat ((first
      |refine ko_sT c1 ?_
      |refine ko_rF c1 ?_
      |refine plan_as (pick_f c1) ?_
      |refine bool_false c1 ?_
      |refine ko_sT c2 ?_
      |refine ko_rF c2 ?_
      |refine plan_as (pick_f c2) ?_
      |refine bool_false c2 ?_
      |refine ko_rT (gff c1) ?_
      |refine ko_sF (gff c1) ?_
      |refine plan_as (pick_t (gff c1)) ?_
      |refine bool_true (gff c1) ?_
      |refine ko_rT (gff c2) ?_
      |refine ko_sF (gff c2) ?_
      |refine plan_as (pick_t (gff c2)) ?_
      |refine bool_true (gff c2) ?_
      |refine sym_pure hC (isSaw_pure long saw) ?_
      |refine sym_pure hC (pA) ?_
      |refine sym_drawn hS (by kernel_rfl) ?_); conv => whnf)
     exact ⟨_, rfl, Wk.refl _⟩
   ·by_cases q3 : T = []
    ·subst q3
     rcases hy with ⟨rfl, rfl⟩ | rfl
     all_goals
      refine pure_sym hE rfl (by repeat' (first | exact trivial | assumption | exact flat_no _ | exact (fun _ h => nomatch h) | apply And.intro)) (by repeat' (first | exact trivial | assumption | exact flat_no _ | exact (fun _ h => nomatch h) | apply And.intro)) fun S q pc hS hq hC hE => ?_
      conv => whnf
      repeat ((first
       |refine ko_sT c1 ?_
       |refine ko_rF c1 ?_
       |refine plan_as (pick_f c1) ?_
       |refine bool_false c1 ?_
       |refine ko_sT c2 ?_
       |refine ko_rF c2 ?_
       |refine plan_as (pick_f c2) ?_
       |refine bool_false c2 ?_
       |refine ko_rT (gff c1) ?_
       |refine ko_sF (gff c1) ?_
       |refine plan_as (pick_t (gff c1)) ?_
       |refine bool_true (gff c1) ?_
       |refine ko_rT (gff c2) ?_
       |refine ko_sF (gff c2) ?_
       |refine plan_as (pick_t (gff c2)) ?_
       |refine bool_true (gff c2) ?_
       |refine sym_pure hC (isSaw_pure long saw) ?_
       |refine sym_pure hC (pA) ?_
       |refine sym_drawn hS (by kernel_rfl) ?_); conv => whnf)
      exact ⟨_, rfl, Wk.refl _⟩
    ·have c3 : ((T.length : Int) == 0) = false := beq_eq_false_iff_ne.2 fun z => q3 (List.eq_nil_of_length_eq_zero (by omega))
     have q4 : D.length ≠ T.length := fun z => hc ⟨q1, q2, q3, z⟩
     rcases hy with ⟨rfl, rfl⟩ | rfl
     ·have c4 : ((0 : Int) != (T.length : Int)) = true := bne_iff_ne.2 fun z => q4 (by show 0 = T.length; omega)
      refine pure_sym hE rfl (by repeat' (first | exact trivial | assumption | exact flat_no _ | exact (fun _ h => nomatch h) | apply And.intro)) (by repeat' (first | exact trivial | assumption | exact flat_no _ | exact (fun _ h => nomatch h) | apply And.intro)) fun S q pc hS hq hC hE => ?_
      conv => whnf
      repeat ((first
       |refine ko_sT c1 ?_
       |refine ko_rF c1 ?_
       |refine plan_as (pick_f c1) ?_
       |refine bool_false c1 ?_
       |refine ko_sT c2 ?_
       |refine ko_rF c2 ?_
       |refine plan_as (pick_f c2) ?_
       |refine bool_false c2 ?_
       |refine ko_sT c3 ?_
       |refine ko_rF c3 ?_
       |refine plan_as (pick_f c3) ?_
       |refine bool_false c3 ?_
       |refine ko_rT c4 ?_
       |refine ko_sF c4 ?_
       |refine plan_as (pick_t c4) ?_
       |refine bool_true c4 ?_
       |refine ko_rT (gff c1) ?_
       |refine ko_sF (gff c1) ?_
       |refine plan_as (pick_t (gff c1)) ?_
       |refine bool_true (gff c1) ?_
       |refine ko_rT (gff c2) ?_
       |refine ko_sF (gff c2) ?_
       |refine plan_as (pick_t (gff c2)) ?_
       |refine bool_true (gff c2) ?_
       |refine ko_rT (gff c3) ?_
       |refine ko_sF (gff c3) ?_
       |refine plan_as (pick_t (gff c3)) ?_
       |refine bool_true (gff c3) ?_
       |refine ko_sT (gft c4) ?_
       |refine ko_rF (gft c4) ?_
       |refine plan_as (pick_f (gft c4)) ?_
       |refine bool_false (gft c4) ?_
       |refine sym_pure hC (isSaw_pure long saw) ?_
       |refine sym_pure hC (pA) ?_
       |refine sym_drawn hS (by kernel_rfl) ?_); conv => whnf)
      exact ⟨_, rfl, Wk.refl _⟩
     ·have c4 : ((D.length : Int) != (T.length : Int)) = true := bne_iff_ne.2 fun z => q4 (by omega)
      refine pure_sym hE rfl (by repeat' (first | exact trivial | assumption | exact flat_no _ | exact (fun _ h => nomatch h) | apply And.intro)) (by repeat' (first | exact trivial | assumption | exact flat_no _ | exact (fun _ h => nomatch h) | apply And.intro)) fun S q pc hS hq hC hE => ?_
      conv => whnf
      repeat ((first
       |refine ko_sT c1 ?_
       |refine ko_rF c1 ?_
       |refine plan_as (pick_f c1) ?_
       |refine bool_false c1 ?_
       |refine ko_sT c2 ?_
       |refine ko_rF c2 ?_
       |refine plan_as (pick_f c2) ?_
       |refine bool_false c2 ?_
       |refine ko_sT c3 ?_
       |refine ko_rF c3 ?_
       |refine plan_as (pick_f c3) ?_
       |refine bool_false c3 ?_
       |refine ko_rT c4 ?_
       |refine ko_sF c4 ?_
       |refine plan_as (pick_t c4) ?_
       |refine bool_true c4 ?_
       |refine ko_rT (gff c1) ?_
       |refine ko_sF (gff c1) ?_
       |refine plan_as (pick_t (gff c1)) ?_
       |refine bool_true (gff c1) ?_
       |refine ko_rT (gff c2) ?_
       |refine ko_sF (gff c2) ?_
       |refine plan_as (pick_t (gff c2)) ?_
       |refine bool_true (gff c2) ?_
       |refine ko_rT (gff c3) ?_
       |refine ko_sF (gff c3) ?_
       |refine plan_as (pick_t (gff c3)) ?_
       |refine bool_true (gff c3) ?_
       |refine ko_sT (gft c4) ?_
       |refine ko_rF (gft c4) ?_
       |refine plan_as (pick_f (gft c4)) ?_
       |refine bool_false (gft c4) ?_
       |refine sym_pure hC (isSaw_pure long saw) ?_
       |refine sym_pure hC (pA) ?_
       |refine sym_drawn hS (by kernel_rfl) ?_); conv => whnf)
      exact ⟨_, rfl, Wk.refl _⟩
  ·have c2 : (!decide (whOk T)) = true := nt_f (decide_eq_false q2)
   rcases hx with ⟨rfl, rfl⟩ | rfl <;> rcases hy with ⟨rfl, rfl⟩ | rfl
   all_goals
    refine pure_sym hE rfl (by repeat' (first | exact trivial | assumption | exact flat_no _ | exact (fun _ h => nomatch h) | apply And.intro)) (by repeat' (first | exact trivial | assumption | exact flat_no _ | exact (fun _ h => nomatch h) | apply And.intro)) fun S q pc hS hq hC hE => ?_
    conv => whnf
    repeat ((first
     |refine ko_sT c1 ?_
     |refine ko_rF c1 ?_
     |refine plan_as (pick_f c1) ?_
     |refine bool_false c1 ?_
     |refine ko_rT c2 ?_
     |refine ko_sF c2 ?_
     |refine plan_as (pick_t c2) ?_
     |refine bool_true c2 ?_
     |refine ko_rT (gff c1) ?_
     |refine ko_sF (gff c1) ?_
     |refine plan_as (pick_t (gff c1)) ?_
     |refine bool_true (gff c1) ?_
     |refine ko_sT (gft c2) ?_
     |refine ko_rF (gft c2) ?_
     |refine plan_as (pick_f (gft c2)) ?_
     |refine bool_false (gft c2) ?_
     |refine sym_pure hC (isSaw_pure long saw) ?_
     |refine sym_pure hC (pA) ?_
     |refine sym_drawn hS (by kernel_rfl) ?_); conv => whnf)
    exact ⟨_, rfl, Wk.refl _⟩
 ·have c1 : (!decide (swOk long saw)) = true := nt_f (decide_eq_false q1)
  rcases hx with ⟨rfl, rfl⟩ | rfl <;> rcases hy with ⟨rfl, rfl⟩ | rfl
  all_goals
   refine pure_sym hE rfl (by repeat' (first | exact trivial | assumption | exact flat_no _ | exact (fun _ h => nomatch h) | apply And.intro)) (by repeat' (first | exact trivial | assumption | exact flat_no _ | exact (fun _ h => nomatch h) | apply And.intro)) fun S q pc hS hq hC hE => ?_
   conv => whnf
   repeat ((first
    |refine ko_rT c1 ?_
    |refine ko_sF c1 ?_
    |refine plan_as (pick_t c1) ?_
    |refine bool_true c1 ?_
    |refine ko_sT (gft c1) ?_
    |refine ko_rF (gft c1) ?_
    |refine plan_as (pick_f (gft c1)) ?_
    |refine bool_false (gft c1) ?_
    |refine sym_pure hC (isSaw_pure long saw) ?_
    |refine sym_drawn hS (by kernel_rfl) ?_); conv => whnf)
   exact ⟨_, rfl, Wk.refl _⟩
theorem sPacks_out {long saw : Nat} {T : List Nat} {D : List Int} (q1 : swOk (Int.ofNat long) (Int.ofNat saw)) (q2 : whOk (zl T)) (h1 : 1 ≤ T.length) (hD : D.length = T.length) (hp : ¬ plOk T.length D) : Pure prog 56 [nv long, nv saw, nl (zl T), nl D] (.tup [.bool false, iv 2]) := by
 have pA := areTeeth_pure (v := nl (zl T)) (.inr rfl) (by have := q2.1; omega)
 have lT := ivs_no (zl T)
 have lD := ivs_no D
 have hz := zl_len T
 have h8 := q2.1
 have c1 : (!decide (swOk (Int.ofNat long) (Int.ofNat saw))) = false := nt_t (decide_eq_true q1)
 have c2 : (!decide (whOk (zl T))) = false := nt_t (decide_eq_true q2)
 have c3 : (((zl T).length : Int) == 0) = false := beq_eq_false_iff_ne.2 fun z => by omega
 have c4 : ((D.length : Int) != ((zl T).length : Int)) = false := by rw [hz, hD]; exact bne_self_eq_false _
 have hw : IntKind.i64.wrap (((zl T).length : Int) - 1) = (T.length : Int) - 1 := by rw [hz]; exact wrapI (by omega) (by omega)
 refine pure_sym hE rfl (by repeat' (first | exact trivial | assumption | exact flat_no _ | exact (fun _ h => nomatch h) | apply And.intro)) (by repeat' (first | exact trivial | assumption | exact flat_no _ | exact (fun _ h => nomatch h) | apply And.intro)) fun S q pc hS hq hC hE => ?_
 conv => whnf
 repeat ((first
  |refine ko_sT c1 ?_
  |refine ko_rF c1 ?_
  |refine plan_as (pick_f c1) ?_
  |refine bool_false c1 ?_
  |refine ko_sT c2 ?_
  |refine ko_rF c2 ?_
  |refine plan_as (pick_f c2) ?_
  |refine bool_false c2 ?_
  |refine ko_sT c3 ?_
  |refine ko_rF c3 ?_
  |refine plan_as (pick_f c3) ?_
  |refine bool_false c3 ?_
  |refine ko_sT c4 ?_
  |refine ko_rF c4 ?_
  |refine plan_as (pick_f c4) ?_
  |refine bool_false c4 ?_
  |refine ko_rT (gff c1) ?_
  |refine ko_sF (gff c1) ?_
  |refine plan_as (pick_t (gff c1)) ?_
  |refine bool_true (gff c1) ?_
  |refine ko_rT (gff c2) ?_
  |refine ko_sF (gff c2) ?_
  |refine plan_as (pick_t (gff c2)) ?_
  |refine bool_true (gff c2) ?_
  |refine ko_rT (gff c3) ?_
  |refine ko_sF (gff c3) ?_
  |refine plan_as (pick_t (gff c3)) ?_
  |refine bool_true (gff c3) ?_
  |refine ko_rT (gff c4) ?_
  |refine ko_sF (gff c4) ?_
  |refine plan_as (pick_t (gff c4)) ?_
  |refine bool_true (gff c4) ?_
  |refine sym_pure hC (isSaw_pure (Int.ofNat long) (Int.ofNat saw)) ?_
  |refine sym_pure hC (pA) ?_
  |refine sym_drawn hS (by kernel_rfl) ?_); conv => whnf)
 refine sym_call hC ?_
 conv => whnf
 refine sym_inline hE hS ?_
 conv => whnf
 refine sym_call hC ?_
 conv => whnf
 refine sym_inline hE hS ?_
 conv => whnf
 refine sym_loopG hE hS (A := Nat) [0, 1, 7] (fun i => [(8, nv i)]) (fun _ => []) (fun _ => []) (fun i => i ≤ D.length ∧ ∀ j, j < i → 0 ≤ gi D j ∧ gi D j < (T.length : Int)) (fun i => D.length - i) 0 (Nat.le_of_ble_eq_true rfl) rfl (by refine ⟨rfl, rfl, rfl, rfl, rfl, rfl, 1, rfl, ?_, ?_⟩ <;> repeat' (first | exact trivial | exact rfl | exact ⟨_, rfl, WkV.refl _⟩ | exact ⟨_, rfl, WkV.own _ _ _⟩ | exact Nat.zero_le _ | exact bdl_no lT | exact bdl_no lD | exact Nat.le_of_ble_eq_true rfl | exact bdl_no (by assumption) | exact bdl_no (flat_no _) | exact bdl_no (ivs_no _) | exact bdl_no (svs_no _) | exact Nat.max_le.2 ⟨Nat.le_of_ble_eq_true rfl, bdl_no (ivs_no _)⟩ | exact Nat.max_le.2 ⟨Nat.le_of_ble_eq_true rfl, bdl_no (svs_no _)⟩ | apply And.intro)) ⟨Nat.zero_le _, fun _ h => absurd h (Nat.not_lt_zero _)⟩ ?_
 intro i ⟨hi1, hj⟩ K hK
 obtain rfl : K = 1 := hK
 conv => whnf
 by_cases hi2 : i < D.length
 ·refine bool_true (ltN_t hi2) ?_
  conv => whnf
  refine bool_true (inR_t (i := i) (n := D.length) hi2) ?_
  conv => whnf
  refine plan_as (nthP (nth_ivs1 (l := D) (i := i) hi2)) ?_
  conv => whnf
  refine sym_call hC ?_
  conv => whnf
  refine sym_inline hE hS ?_
  conv => whnf
  refine sym_pure hC (sin_pure (gi D i) 0 (IntKind.i64.wrap (((zl T).length : Int) - 1))) ?_
  conv => whnf
  by_cases q : 0 ≤ gi D i ∧ gi D i < (T.length : Int)
  ·refine bool_false (nt_t (decide_eq_true (show 0 ≤ gi D i ∧ gi D i ≤ IntKind.i64.wrap (((zl T).length : Int) - 1) by rw [hw]; omega))) ?_
   conv => whnf
   exact ⟨i + 1, ⟨hi2, fun j h => by
    by_cases e : j = i
    ·subst e; exact q
    ·exact hj j (by omega)⟩, by omega, Nat.le_refl _, (by refine ⟨rfl, rfl, rfl, rfl, rfl, rfl, 1, rfl, ?_, ?_⟩ <;> repeat' (first | exact trivial | exact rfl | exact ⟨_, rfl, WkV.refl _⟩ | exact ⟨_, rfl, WkV.own _ _ _⟩ | exact Nat.zero_le _ | exact ⟨_, rfl, WkV.int (wrapN (m := i + 1) (by omega))⟩ | exact bdl_no lT | exact bdl_no lD | exact Nat.le_of_ble_eq_true rfl | exact bdl_no (by assumption) | exact bdl_no (flat_no _) | exact bdl_no (ivs_no _) | exact bdl_no (svs_no _) | exact Nat.max_le.2 ⟨Nat.le_of_ble_eq_true rfl, bdl_no (ivs_no _)⟩ | exact Nat.max_le.2 ⟨Nat.le_of_ble_eq_true rfl, bdl_no (svs_no _)⟩ | apply And.intro))⟩
  ·refine bool_true (nt_f (decide_eq_false (show ¬ (0 ≤ gi D i ∧ gi D i ≤ IntKind.i64.wrap (((zl T).length : Int) - 1)) by rw [hw]; omega))) ?_
   conv => whnf
   rw [show decide (Int.ofNat i ≥ 0) = true from decide_eq_true (Int.natCast_nonneg i)]
   conv => whnf
   repeat ((first
    |refine ko_sT c1 ?_
    |refine ko_rF c1 ?_
    |refine plan_as (pick_f c1) ?_
    |refine bool_false c1 ?_
    |refine ko_sT c2 ?_
    |refine ko_rF c2 ?_
    |refine plan_as (pick_f c2) ?_
    |refine bool_false c2 ?_
    |refine ko_sT c3 ?_
    |refine ko_rF c3 ?_
    |refine plan_as (pick_f c3) ?_
    |refine bool_false c3 ?_
    |refine ko_sT c4 ?_
    |refine ko_rF c4 ?_
    |refine plan_as (pick_f c4) ?_
    |refine bool_false c4 ?_
    |refine sym_drawn hS (by kernel_rfl) ?_); conv => whnf)
   exact ⟨_, rfl, Wk.refl _⟩
 ·exact absurd ⟨hD, fun j h => hj j (by omega)⟩ hp
theorem sPacks_yes {long saw : Nat} {T : List Nat} {sh : List Nat} (q1 : swOk (Int.ofNat long) (Int.ofNat saw)) (q2 : whOk (zl T)) (h1 : 1 ≤ T.length) (hD : (zl sh).length = T.length) (hp : plOk T.length (zl sh)) : Pure prog 56 [nv long, nv saw, nl (zl T), nl (zl sh)] (.tup [.bool (ordB sh 0 && fitB long saw (sh.zip T) []), iv 0]) := by
 have h60 : ∀ x, x ∈ T → x ≤ 60 := fun x hx => by
  obtain ⟨j, hj, e⟩ := List.getElem_of_mem hx
  have := q2.2 j (by rw [zl_len]; exact hj)
  rw [gi_zl T hj, show gn T j = x by rw [← e]; simp [gn, List.getD, hj]] at this
  have := this.2
  exact Int.ofNat_le.1 this
 have z2 := zl_len sh
 have pf := fits_pure (long := long) (saw := saw) (teeth := T) (sh := sh) (by have := q1.1.2; exact Int.ofNat_le.1 this) (by have := q1.2.2; exact Int.ofNat_le.1 this) (by omega) (by have := q2.1; rw [zl_len] at this; exact this) h60
 generalize hSS : zl sh = D at *
 have pA := areTeeth_pure (v := nl (zl T)) (.inr rfl) (by have := q2.1; omega)
 have lT := ivs_no (zl T)
 have lD := ivs_no D
 have hz := zl_len T
 have h8 := q2.1
 have c1 : (!decide (swOk (Int.ofNat long) (Int.ofNat saw))) = false := nt_t (decide_eq_true q1)
 have c2 : (!decide (whOk (zl T))) = false := nt_t (decide_eq_true q2)
 have c3 : (((zl T).length : Int) == 0) = false := beq_eq_false_iff_ne.2 fun z => by omega
 have c4 : ((D.length : Int) != ((zl T).length : Int)) = false := by rw [hz, hD]; exact bne_self_eq_false _
 have hw : IntKind.i64.wrap (((zl T).length : Int) - 1) = (T.length : Int) - 1 := by rw [hz]; exact wrapI (by omega) (by omega)
 refine pure_sym hE rfl (by repeat' (first | exact trivial | assumption | exact flat_no _ | exact (fun _ h => nomatch h) | apply And.intro)) (by repeat' (first | exact trivial | assumption | exact flat_no _ | exact (fun _ h => nomatch h) | apply And.intro)) fun S q pc hS hq hC hE => ?_
 conv => whnf
 repeat ((first
  |refine ko_sT c1 ?_
  |refine ko_rF c1 ?_
  |refine plan_as (pick_f c1) ?_
  |refine bool_false c1 ?_
  |refine ko_sT c2 ?_
  |refine ko_rF c2 ?_
  |refine plan_as (pick_f c2) ?_
  |refine bool_false c2 ?_
  |refine ko_sT c3 ?_
  |refine ko_rF c3 ?_
  |refine plan_as (pick_f c3) ?_
  |refine bool_false c3 ?_
  |refine ko_sT c4 ?_
  |refine ko_rF c4 ?_
  |refine plan_as (pick_f c4) ?_
  |refine bool_false c4 ?_
  |refine ko_rT (gff c1) ?_
  |refine ko_sF (gff c1) ?_
  |refine plan_as (pick_t (gff c1)) ?_
  |refine bool_true (gff c1) ?_
  |refine ko_rT (gff c2) ?_
  |refine ko_sF (gff c2) ?_
  |refine plan_as (pick_t (gff c2)) ?_
  |refine bool_true (gff c2) ?_
  |refine ko_rT (gff c3) ?_
  |refine ko_sF (gff c3) ?_
  |refine plan_as (pick_t (gff c3)) ?_
  |refine bool_true (gff c3) ?_
  |refine ko_rT (gff c4) ?_
  |refine ko_sF (gff c4) ?_
  |refine plan_as (pick_t (gff c4)) ?_
  |refine bool_true (gff c4) ?_
  |refine sym_pure hC (isSaw_pure (Int.ofNat long) (Int.ofNat saw)) ?_
  |refine sym_pure hC (pA) ?_
  |refine sym_drawn hS (by kernel_rfl) ?_); conv => whnf)
 refine sym_call hC ?_
 conv => whnf
 refine sym_inline hE hS ?_
 conv => whnf
 refine sym_call hC ?_
 conv => whnf
 refine sym_inline hE hS ?_
 conv => whnf
 refine sym_loopG hE hS (A := Nat) [0, 1, 7] (fun i => [(8, nv i)]) (fun _ => []) (fun _ => []) (fun i => i ≤ D.length ∧ ∀ j, j < i → 0 ≤ gi D j ∧ gi D j < (T.length : Int)) (fun i => D.length - i) 0 (Nat.le_of_ble_eq_true rfl) rfl (by refine ⟨rfl, rfl, rfl, rfl, rfl, rfl, 1, rfl, ?_, ?_⟩ <;> repeat' (first | exact trivial | exact rfl | exact ⟨_, rfl, WkV.refl _⟩ | exact ⟨_, rfl, WkV.own _ _ _⟩ | exact Nat.zero_le _ | exact bdl_no lT | exact bdl_no lD | exact Nat.le_of_ble_eq_true rfl | exact bdl_no (by assumption) | exact bdl_no (flat_no _) | exact bdl_no (ivs_no _) | exact bdl_no (svs_no _) | exact Nat.max_le.2 ⟨Nat.le_of_ble_eq_true rfl, bdl_no (ivs_no _)⟩ | exact Nat.max_le.2 ⟨Nat.le_of_ble_eq_true rfl, bdl_no (svs_no _)⟩ | apply And.intro)) ⟨Nat.zero_le _, fun _ h => absurd h (Nat.not_lt_zero _)⟩ ?_
 intro i ⟨hi1, hj⟩ K hK
 obtain rfl : K = 1 := hK
 conv => whnf
 by_cases hi2 : i < D.length
 ·refine bool_true (ltN_t hi2) ?_
  conv => whnf
  refine bool_true (inR_t (i := i) (n := D.length) hi2) ?_
  conv => whnf
  refine plan_as (nthP (nth_ivs1 (l := D) (i := i) hi2)) ?_
  conv => whnf
  refine sym_call hC ?_
  conv => whnf
  refine sym_inline hE hS ?_
  conv => whnf
  refine sym_pure hC (sin_pure (gi D i) 0 (IntKind.i64.wrap (((zl T).length : Int) - 1))) ?_
  conv => whnf
  have q := hp.2 i hi2
  refine bool_false (nt_t (decide_eq_true (show 0 ≤ gi D i ∧ gi D i ≤ IntKind.i64.wrap (((zl T).length : Int) - 1) by rw [hw]; omega))) ?_
  conv => whnf
  exact ⟨i + 1, ⟨hi2, fun j _ => hp.2 j (by omega)⟩, by omega, Nat.le_refl _, (by refine ⟨rfl, rfl, rfl, rfl, rfl, rfl, 1, rfl, ?_, ?_⟩ <;> repeat' (first | exact trivial | exact rfl | exact ⟨_, rfl, WkV.refl _⟩ | exact ⟨_, rfl, WkV.own _ _ _⟩ | exact Nat.zero_le _ | exact ⟨_, rfl, WkV.int (wrapN (m := i + 1) (by omega))⟩ | exact bdl_no lT | exact bdl_no lD | exact Nat.le_of_ble_eq_true rfl | exact bdl_no (by assumption) | exact bdl_no (flat_no _) | exact bdl_no (ivs_no _) | exact bdl_no (svs_no _) | exact Nat.max_le.2 ⟨Nat.le_of_ble_eq_true rfl, bdl_no (ivs_no _)⟩ | exact Nat.max_le.2 ⟨Nat.le_of_ble_eq_true rfl, bdl_no (svs_no _)⟩ | apply And.intro))⟩
 ·refine bool_false (ltN_f hi2) ?_
  conv => whnf
  refine .inl ?_
  conv => whnf
  repeat ((first
   |refine ko_sT c1 ?_
   |refine ko_rF c1 ?_
   |refine plan_as (pick_f c1) ?_
   |refine bool_false c1 ?_
   |refine ko_sT c2 ?_
   |refine ko_rF c2 ?_
   |refine plan_as (pick_f c2) ?_
   |refine bool_false c2 ?_
   |refine ko_sT c3 ?_
   |refine ko_rF c3 ?_
   |refine plan_as (pick_f c3) ?_
   |refine bool_false c3 ?_
   |refine ko_sT c4 ?_
   |refine ko_rF c4 ?_
   |refine plan_as (pick_f c4) ?_
   |refine bool_false c4 ?_
   |refine sym_drawn hS (by kernel_rfl) ?_); conv => whnf)
  subst hSS
  refine sym_loopG hE hS (A := Nat × Nat) [0, 1, 3, 6, 39, 40] (fun (i, m) => [(10, nv m), (41, nv i)]) (fun _ => []) (fun _ => []) (fun (i, m) => i ≤ sh.length ∧ ordB (sh.drop i) m = ordB sh 0 ∧ m ≤ i) (fun (i, _) => sh.length - i) (0, 0) (Nat.le_of_ble_eq_true rfl) rfl (by refine ⟨rfl, rfl, rfl, rfl, rfl, rfl, 1, rfl, ?_, ?_⟩ <;> repeat' (first | exact trivial | exact rfl | exact ⟨_, rfl, WkV.refl _⟩ | exact ⟨_, rfl, WkV.own _ _ _⟩ | exact Nat.zero_le _ | exact bdl_no lT | exact bdl_no lD | exact Nat.le_of_ble_eq_true rfl | exact bdl_no (by assumption) | exact bdl_no (flat_no _) | exact bdl_no (ivs_no _) | exact bdl_no (svs_no _) | exact Nat.max_le.2 ⟨Nat.le_of_ble_eq_true rfl, bdl_no (ivs_no _)⟩ | exact Nat.max_le.2 ⟨Nat.le_of_ble_eq_true rfl, bdl_no (svs_no _)⟩ | apply And.intro)) ⟨Nat.zero_le _, rfl, Nat.le_refl _⟩ ?_
  rintro ⟨i, m⟩ ⟨hi, he, hm⟩ Q hQ
  obtain rfl : Q = 1 := hQ
  conv => whnf
  by_cases hi3 : i < sh.length
  ·have hiz : i < (zl sh).length := by omega
   have hi4 : IntKind.i64.wrap (Int.ofNat i + 1) = Int.ofNat (i + 1) := wrapN (m := i + 1) (by omega)
   have g0 : nth (ivs (zl sh)) (i * 1) = some (nv (gn sh i)) := by rw [nth_ivs1 hiz, gi_zl sh hi3]
   have hd : sh.drop i = gn sh i :: sh.drop (i + 1) := by
    rw [List.drop_eq_getElem_cons hi3]
    simp [gn, List.getD, hi3]
   rw [hd, ordB] at he
   generalize gn sh i = n at *
   refine bool_true (ltN_t hiz) ?_
   conv => whnf
   refine bool_true (inR_t hiz) ?_
   conv => whnf
   refine plan_as (nthP (g0)) ?_
   conv => whnf
   by_cases h4 : m < n
   ·rw [if_pos h4] at he
    refine bool_true (decide_eq_true (show Int.ofNat n > Int.ofNat m from Int.ofNat_lt.2 h4)) ?_
    conv => whnf
    rw [← he]
    exact ⟨_, rfl, Wk.refl _⟩
   ·rw [if_neg h4] at he
    refine bool_false (decide_eq_false (show ¬ Int.ofNat n > Int.ofNat m from fun z => h4 (Int.ofNat_lt.1 z))) ?_
    conv => whnf
    by_cases h5 : n = m
    ·rw [if_pos h5] at he
     refine bool_true ((show (Int.ofNat n == Int.ofNat m) = true by rw [h5]; exact beq_self_eq_true _)) ?_
     conv => whnf
     exact ⟨(i + 1, m + 1), ⟨hi3, he, by omega⟩, by show sh.length - (i + 1) < sh.length - i; omega, Nat.le_refl _, (by refine ⟨rfl, rfl, rfl, rfl, rfl, rfl, 1, rfl, ?_, ?_⟩ <;> repeat' (first | exact trivial | exact rfl | exact ⟨_, rfl, WkV.refl _⟩ | exact ⟨_, rfl, WkV.own _ _ _⟩ | exact Nat.zero_le _ | exact ⟨_, rfl, WkV.int hi4⟩ | exact ⟨_, rfl, WkV.int (wrapN (m := m + 1) (by omega))⟩ | exact bdl_no lT | exact bdl_no lD | exact Nat.le_of_ble_eq_true rfl | exact bdl_no (by assumption) | exact bdl_no (flat_no _) | exact bdl_no (ivs_no _) | exact bdl_no (svs_no _) | exact Nat.max_le.2 ⟨Nat.le_of_ble_eq_true rfl, bdl_no (ivs_no _)⟩ | exact Nat.max_le.2 ⟨Nat.le_of_ble_eq_true rfl, bdl_no (svs_no _)⟩ | apply And.intro))⟩
    ·rw [if_neg h5] at he
     refine bool_false ((show (Int.ofNat n == Int.ofNat m) = false from beq_eq_false_iff_ne.2 fun z => h5 (Int.ofNat.inj z))) ?_
     conv => whnf
     exact ⟨(i + 1, m), ⟨hi3, he, by omega⟩, by show sh.length - (i + 1) < sh.length - i; omega, Nat.le_refl _, (by refine ⟨rfl, rfl, rfl, rfl, rfl, rfl, 1, rfl, ?_, ?_⟩ <;> repeat' (first | exact trivial | exact rfl | exact ⟨_, rfl, WkV.refl _⟩ | exact ⟨_, rfl, WkV.own _ _ _⟩ | exact Nat.zero_le _ | exact ⟨_, rfl, WkV.int hi4⟩ | exact bdl_no lT | exact bdl_no lD | exact Nat.le_of_ble_eq_true rfl | exact bdl_no (by assumption) | exact bdl_no (flat_no _) | exact bdl_no (ivs_no _) | exact bdl_no (svs_no _) | exact Nat.max_le.2 ⟨Nat.le_of_ble_eq_true rfl, bdl_no (ivs_no _)⟩ | exact Nat.max_le.2 ⟨Nat.le_of_ble_eq_true rfl, bdl_no (svs_no _)⟩ | apply And.intro))⟩
  ·refine bool_false (ltN_f (show ¬ i < (zl sh).length by omega)) ?_
   conv => whnf
   refine .inl ?_
   conv => whnf
   refine sym_pure hC (pf) ?_
   conv => whnf
   rw [List.drop_eq_nil_of_le (by omega)] at he
   rw [← he]
   exact ⟨_, rfl, Wk.refl _⟩
end
end Go.Abs.Seat

/-! Packings, as the document tells them. -/
namespace Go.Abs.Seat
noncomputable section
open Go Go.Abs Go.Proofs.Tryz
set_option maxRecDepth 100000
set_option maxHeartbeats 40000000
attribute [local irreducible] IntKind.wrap pEq pSlice

theorem rSheet_pure (l s : Int) : Pure prog 58 [iv l, iv s] (.bool (decide (swOk l s))) := by
 by_cases h1 : 1 ≤ l ∧ l ≤ 500
 ·have c1 : decide (1 ≤ l ∧ l ≤ 500) = true := decide_eq_true h1
  refine pure_sym hE rfl (by repeat' (first | exact trivial | assumption | exact flat_no _ | exact (fun _ h => nomatch h) | apply And.intro)) (by repeat' (first | exact trivial | assumption | exact flat_no _ | exact (fun _ h => nomatch h) | apply And.intro)) fun S q pc hS hq hC hE => ?_
  conv => whnf
  repeat ((first
   |refine ko_rT c1 ?_
   |refine ko_sF c1 ?_
   |refine plan_as (pick_t c1) ?_
   |refine bool_true c1 ?_
   |refine ko_rT (gd_tt c1) ?_
   |refine ko_sF (gd_tt c1) ?_
   |refine plan_as (pick_t (gd_tt c1)) ?_
   |refine bool_true (gd_tt c1) ?_
   |refine sym_pure hC (in9_pure l 1 500) ?_
   |refine sym_pure hC (in9_pure s 0 9) ?_
   |refine sym_drawn hS (by kernel_rfl) ?_); conv => whnf)
  exact ⟨_, rfl, wkb (by unfold swOk; simp [h1])⟩
 ·have c1 : decide (1 ≤ l ∧ l ≤ 500) = false := decide_eq_false h1
  refine pure_sym hE rfl (by repeat' (first | exact trivial | assumption | exact flat_no _ | exact (fun _ h => nomatch h) | apply And.intro)) (by repeat' (first | exact trivial | assumption | exact flat_no _ | exact (fun _ h => nomatch h) | apply And.intro)) fun S q pc hS hq hC hE => ?_
  conv => whnf
  repeat ((first
   |refine ko_sT c1 ?_
   |refine ko_rF c1 ?_
   |refine plan_as (pick_f c1) ?_
   |refine bool_false c1 ?_
   |refine ko_sT (gd_tf c1) ?_
   |refine ko_rF (gd_tf c1) ?_
   |refine plan_as (pick_f (gd_tf c1)) ?_
   |refine bool_false (gd_tf c1) ?_
   |refine sym_pure hC (in9_pure l 1 500) ?_
   |refine sym_drawn hS (by kernel_rfl) ?_); conv => whnf)
  exact ⟨_, rfl, wkb (by unfold swOk; simp [h1])⟩
def wlOk (T : List Int) : Prop := allT T ∧ 1 ≤ T.length ∧ T.length ≤ 8
instance (T : List Int) : Decidable (wlOk T) := Classical.propDecidable _
theorem rWheels_pure {x : AV} {T : List Int} (hx : IL x T) (hT : T.length ≤ 10) : Pure prog 59 [x] (.bool (decide (wlOk T))) := by
 rcases hx with ⟨rfl, rfl⟩ | rfl
 ·rw [decide_eq_false (show ¬ wlOk [] from fun z => absurd z.2.1 (by decide))]
  refine pure_sym hE rfl (by repeat' (first | exact trivial | assumption | exact flat_no _ | exact (fun _ h => nomatch h) | apply And.intro)) (by repeat' (first | exact trivial | assumption | exact flat_no _ | exact (fun _ h => nomatch h) | apply And.intro)) fun S q pc hS hq hC hE => ?_
  conv => whnf
  refine sym_unroll hE hS ?_
  conv => whnf
  refine sym_pure hC (in9_pure 0 1 8) ?_
  conv => whnf
  exact ⟨_, rfl, Wk.refl _⟩
 ·have lT := ivs_no T
  refine pure_sym hE rfl (by repeat' (first | exact trivial | assumption | exact flat_no _ | exact (fun _ h => nomatch h) | apply And.intro)) (by repeat' (first | exact trivial | assumption | exact flat_no _ | exact (fun _ h => nomatch h) | apply And.intro)) fun S q pc hS hq hC hE => ?_
  conv => whnf
  refine sym_loop hE hS (A := Nat) [0] (fun i => [(3, nv i)]) (fun _ => []) (fun i => i ≤ T.length ∧ ∀ j, j < i → tth (gi T j)) (fun i => T.length - i) 0 rfl rfl (by refine ⟨rfl, rfl, rfl, rfl, ?_, ?_⟩ <;> repeat' (first | exact trivial | exact rfl | exact Nat.zero_le _ | exact bdl_no lT | exact Nat.le_of_ble_eq_true rfl | exact bdl_no (by assumption) | exact bdl_no (flat_no _) | exact bdl_no (ivs_no _) | exact Nat.max_le.2 ⟨Nat.le_of_ble_eq_true rfl, bdl_no (ivs_no _)⟩ | apply And.intro)) ⟨Nat.zero_le _, fun _ h => absurd h (Nat.not_lt_zero _)⟩ ?_
  intro i ⟨hi, hj⟩
  conv => whnf
  by_cases hi2 : i < T.length
  ·refine bool_true (ltN_t hi2) ?_
   conv => whnf
   refine bool_true (inR_t (i := i) (n := T.length) hi2) ?_
   conv => whnf
   refine plan_as (nthP (nth_ivs1 (l := T) (i := i) hi2)) ?_
   conv => whnf
   refine sym_pure hC (rTeeth_pure (gi T i)) ?_
   conv => whnf
   by_cases h1 : tth (gi T i)
   ·refine bool_false (nt_t (decide_eq_true h1)) ?_
    conv => whnf
    exact ⟨i + 1, ⟨hi2, fun j hj2 => by
     by_cases e : j = i
     ·subst e; exact h1
     ·exact hj j (by omega)⟩, by omega, (by refine ⟨rfl, rfl, rfl, rfl, ?_, ?_⟩ <;> repeat' (first | exact trivial | exact rfl | exact Nat.zero_le _ | exact congrArg (fun z => some (AV.int .i64 z)) (show IntKind.i64.wrap (Int.ofNat i + 1) = Int.ofNat (i + 1) from wrapN (m := i + 1) (by omega)) | exact bdl_no lT | exact Nat.le_of_ble_eq_true rfl | exact bdl_no (by assumption) | exact bdl_no (flat_no _) | exact bdl_no (ivs_no _) | exact Nat.max_le.2 ⟨Nat.le_of_ble_eq_true rfl, bdl_no (ivs_no _)⟩ | apply And.intro))⟩
   ·refine bool_true (nt_f (decide_eq_false h1)) ?_
    conv => whnf
    rw [decide_eq_false (show ¬ wlOk T from fun z => h1 (z.1 i hi2))]
    exact ⟨_, rfl, Wk.refl _⟩
  ·refine bool_false (ltN_f hi2) ?_
   conv => whnf
   refine sym_pure hC (in9_pure T.length 1 8) ?_
   conv => whnf
   exact ⟨_, rfl, wkb (decide_eq_decide.2 ⟨fun z => ⟨fun j hj2 => hj j (by omega), by omega, by omega⟩, fun z => by have := z.2; omega⟩)⟩
theorem rPlaces_pure {x y : AV} {T D : List Int} (hx : IL x T) (hy : IL y D) (hT : T.length ≤ 10) (hD : D.length ≤ 10) : Pure prog 60 [x, y] (.bool (decide (plOk T.length D))) := by
 have lD := ivs_no D
 have lT := ivs_no T
 rcases hy with ⟨rfl, rfl⟩ | rfl
 ·rcases hx with ⟨rfl, rfl⟩ | rfl
  ·rw [decide_eq_true (show plOk ([] : List Int).length [] from ⟨rfl, fun j hj => absurd hj (Nat.not_lt_zero _)⟩)]
   refine pure_sym hE rfl (by repeat' (first | exact trivial | assumption | exact flat_no _ | exact (fun _ h => nomatch h) | apply And.intro)) (by repeat' (first | exact trivial | assumption | exact flat_no _ | exact (fun _ h => nomatch h) | apply And.intro)) fun S q pc hS hq hC hE => ?_
   conv => whnf
   refine sym_unroll hE hS ?_
   conv => whnf
   exact ⟨_, rfl, Wk.refl _⟩
  ·have e : decide (plOk T.length []) = ((0 : Int) == (T.length : Int)) := by
    rw [Bool.eq_iff_iff, decide_eq_true_iff, beq_iff_eq]
    exact ⟨fun z => by have := z.1; simp only [List.length_nil] at this; omega, fun z => ⟨by simp only [List.length_nil]; omega, fun j hj => absurd hj (Nat.not_lt_zero _)⟩⟩
   rw [e]
   refine pure_sym hE rfl (by repeat' (first | exact trivial | assumption | exact flat_no _ | exact (fun _ h => nomatch h) | apply And.intro)) (by repeat' (first | exact trivial | assumption | exact flat_no _ | exact (fun _ h => nomatch h) | apply And.intro)) fun S q pc hS hq hC hE => ?_
   conv => whnf
   refine sym_unroll hE hS ?_
   conv => whnf
   exact ⟨_, rfl, Wk.refl _⟩
 ·rcases hx with ⟨rfl, rfl⟩ | rfl
  ·have ew : IntKind.i64.wrap ((0 : Int) - 1) = -1 := wrapI (by decide) (by decide)
   show Pure prog _ [.nils, nl D] (.bool (decide (plOk 0 D)))
   have lT : True := trivial
   refine pure_sym hE rfl (by repeat' (first | exact trivial | assumption | exact flat_no _ | exact (fun _ h => nomatch h) | apply And.intro)) (by repeat' (first | exact trivial | assumption | exact flat_no _ | exact (fun _ h => nomatch h) | apply And.intro)) fun S q pc hS hq hC hE => ?_
   conv => whnf
   refine sym_loop hE hS (A := Nat) [0, 1] (fun i => [(5, nv i)]) (fun _ => []) (fun i => i ≤ D.length ∧ ∀ j, j < i → 0 ≤ gi D j ∧ gi D j < (0 : Int)) (fun i => D.length - i) 0 rfl rfl (by refine ⟨rfl, rfl, rfl, rfl, ?_, ?_⟩ <;> repeat' (first | exact trivial | exact rfl | exact Nat.zero_le _ | exact bdl_no lT | exact bdl_no lD | exact Nat.le_of_ble_eq_true rfl | exact bdl_no (by assumption) | exact bdl_no (flat_no _) | exact bdl_no (ivs_no _) | exact Nat.max_le.2 ⟨Nat.le_of_ble_eq_true rfl, bdl_no (ivs_no _)⟩ | apply And.intro)) ⟨Nat.zero_le _, fun _ h => absurd h (Nat.not_lt_zero _)⟩ ?_
   intro i ⟨hi, hj⟩
   conv => whnf
   by_cases hi2 : i < D.length
   ·refine bool_true (ltN_t hi2) ?_
    conv => whnf
    refine bool_true (inR_t (i := i) (n := D.length) hi2) ?_
    conv => whnf
    refine plan_as (nthP (nth_ivs1 (l := D) (i := i) hi2)) ?_
    conv => whnf
    refine sym_pure hC (in9_pure (gi D i) 0 (IntKind.i64.wrap ((0 : Int) - 1))) ?_
    conv => whnf
    by_cases h1 : 0 ≤ gi D i ∧ gi D i < (0 : Int)
    ·refine bool_false (nt_t (decide_eq_true (show 0 ≤ gi D i ∧ gi D i ≤ IntKind.i64.wrap ((0 : Int) - 1) by rw [ew]; omega))) ?_
     conv => whnf
     exact ⟨i + 1, ⟨hi2, fun j hj2 => by
      by_cases e : j = i
      ·subst e; exact h1
      ·exact hj j (by omega)⟩, by omega, (by refine ⟨rfl, rfl, rfl, rfl, ?_, ?_⟩ <;> repeat' (first | exact trivial | exact rfl | exact Nat.zero_le _ | exact congrArg (fun z => some (AV.int .i64 z)) (show IntKind.i64.wrap (Int.ofNat i + 1) = Int.ofNat (i + 1) from wrapN (m := i + 1) (by omega)) | exact bdl_no lT | exact bdl_no lD | exact Nat.le_of_ble_eq_true rfl | exact bdl_no (by assumption) | exact bdl_no (flat_no _) | exact bdl_no (ivs_no _) | exact Nat.max_le.2 ⟨Nat.le_of_ble_eq_true rfl, bdl_no (ivs_no _)⟩ | apply And.intro))⟩
    ·refine bool_true (nt_f (decide_eq_false (show ¬ (0 ≤ gi D i ∧ gi D i ≤ IntKind.i64.wrap ((0 : Int) - 1)) by rw [ew]; omega))) ?_
     conv => whnf
     rw [decide_eq_false (show ¬ plOk 0 D from fun z => h1 (z.2 i hi2))]
     exact ⟨_, rfl, Wk.refl _⟩
   ·refine bool_false (ltN_f hi2) ?_
    conv => whnf
    have e : decide (plOk 0 D) = ((D.length : Int) == (0 : Int)) := by
     rw [Bool.eq_iff_iff, decide_eq_true_iff, beq_iff_eq]
     exact ⟨fun z => congrArg (fun n : Nat => (n : Int)) z.1, fun z => ⟨Int.ofNat.inj z, fun j hj2 => hj j (by omega)⟩⟩
    rw [e]
    exact ⟨_, rfl, Wk.refl _⟩
  ·by_cases h0 : T.length = 0
   ·obtain rfl : T = [] := List.eq_nil_of_length_eq_zero h0
    have ew : IntKind.i64.wrap ((([] : List Int).length : Int) - 1) = -1 := wrapI (by decide) (by decide)
    generalize ([] : List Int) = T at *
    refine pure_sym hE rfl (by repeat' (first | exact trivial | assumption | exact flat_no _ | exact (fun _ h => nomatch h) | apply And.intro)) (by repeat' (first | exact trivial | assumption | exact flat_no _ | exact (fun _ h => nomatch h) | apply And.intro)) fun S q pc hS hq hC hE => ?_
    conv => whnf
    refine sym_loop hE hS (A := Nat) [0, 1] (fun i => [(5, nv i)]) (fun _ => []) (fun i => i ≤ D.length ∧ ∀ j, j < i → 0 ≤ gi D j ∧ gi D j < (T.length : Int)) (fun i => D.length - i) 0 rfl rfl (by refine ⟨rfl, rfl, rfl, rfl, ?_, ?_⟩ <;> repeat' (first | exact trivial | exact rfl | exact Nat.zero_le _ | exact bdl_no lT | exact bdl_no lD | exact Nat.le_of_ble_eq_true rfl | exact bdl_no (by assumption) | exact bdl_no (flat_no _) | exact bdl_no (ivs_no _) | exact Nat.max_le.2 ⟨Nat.le_of_ble_eq_true rfl, bdl_no (ivs_no _)⟩ | apply And.intro)) ⟨Nat.zero_le _, fun _ h => absurd h (Nat.not_lt_zero _)⟩ ?_
    intro i ⟨hi, hj⟩
    conv => whnf
    by_cases hi2 : i < D.length
    ·refine bool_true (ltN_t hi2) ?_
     conv => whnf
     refine bool_true (inR_t (i := i) (n := D.length) hi2) ?_
     conv => whnf
     refine plan_as (nthP (nth_ivs1 (l := D) (i := i) hi2)) ?_
     conv => whnf
     refine sym_pure hC (in9_pure (gi D i) 0 (IntKind.i64.wrap ((T.length : Int) - 1))) ?_
     conv => whnf
     by_cases h1 : 0 ≤ gi D i ∧ gi D i < (T.length : Int)
     ·refine bool_false (nt_t (decide_eq_true (show 0 ≤ gi D i ∧ gi D i ≤ IntKind.i64.wrap ((T.length : Int) - 1) by rw [ew]; omega))) ?_
      conv => whnf
      exact ⟨i + 1, ⟨hi2, fun j hj2 => by
       by_cases e : j = i
       ·subst e; exact h1
       ·exact hj j (by omega)⟩, by omega, (by refine ⟨rfl, rfl, rfl, rfl, ?_, ?_⟩ <;> repeat' (first | exact trivial | exact rfl | exact Nat.zero_le _ | exact congrArg (fun z => some (AV.int .i64 z)) (show IntKind.i64.wrap (Int.ofNat i + 1) = Int.ofNat (i + 1) from wrapN (m := i + 1) (by omega)) | exact bdl_no lT | exact bdl_no lD | exact Nat.le_of_ble_eq_true rfl | exact bdl_no (by assumption) | exact bdl_no (flat_no _) | exact bdl_no (ivs_no _) | exact Nat.max_le.2 ⟨Nat.le_of_ble_eq_true rfl, bdl_no (ivs_no _)⟩ | apply And.intro))⟩
     ·refine bool_true (nt_f (decide_eq_false (show ¬ (0 ≤ gi D i ∧ gi D i ≤ IntKind.i64.wrap ((T.length : Int) - 1)) by rw [ew]; omega))) ?_
      conv => whnf
      rw [decide_eq_false (show ¬ plOk T.length D from fun z => h1 (z.2 i hi2))]
      exact ⟨_, rfl, Wk.refl _⟩
    ·refine bool_false (ltN_f hi2) ?_
     conv => whnf
     have e : decide (plOk T.length D) = ((D.length : Int) == (T.length : Int)) := by
      rw [Bool.eq_iff_iff, decide_eq_true_iff, beq_iff_eq]
      exact ⟨fun z => congrArg (fun n : Nat => (n : Int)) z.1, fun z => ⟨Int.ofNat.inj z, fun j hj2 => hj j (by omega)⟩⟩
     rw [e]
     exact ⟨_, rfl, Wk.refl _⟩
   ·have ew : IntKind.i64.wrap ((T.length : Int) - 1) = (T.length : Int) - 1 := wrapI (by omega) (by omega)
    refine pure_sym hE rfl (by repeat' (first | exact trivial | assumption | exact flat_no _ | exact (fun _ h => nomatch h) | apply And.intro)) (by repeat' (first | exact trivial | assumption | exact flat_no _ | exact (fun _ h => nomatch h) | apply And.intro)) fun S q pc hS hq hC hE => ?_
    conv => whnf
    refine sym_loop hE hS (A := Nat) [0, 1] (fun i => [(5, nv i)]) (fun _ => []) (fun i => i ≤ D.length ∧ ∀ j, j < i → 0 ≤ gi D j ∧ gi D j < (T.length : Int)) (fun i => D.length - i) 0 rfl rfl (by refine ⟨rfl, rfl, rfl, rfl, ?_, ?_⟩ <;> repeat' (first | exact trivial | exact rfl | exact Nat.zero_le _ | exact bdl_no lT | exact bdl_no lD | exact Nat.le_of_ble_eq_true rfl | exact bdl_no (by assumption) | exact bdl_no (flat_no _) | exact bdl_no (ivs_no _) | exact Nat.max_le.2 ⟨Nat.le_of_ble_eq_true rfl, bdl_no (ivs_no _)⟩ | apply And.intro)) ⟨Nat.zero_le _, fun _ h => absurd h (Nat.not_lt_zero _)⟩ ?_
    intro i ⟨hi, hj⟩
    conv => whnf
    by_cases hi2 : i < D.length
    ·refine bool_true (ltN_t hi2) ?_
     conv => whnf
     refine bool_true (inR_t (i := i) (n := D.length) hi2) ?_
     conv => whnf
     refine plan_as (nthP (nth_ivs1 (l := D) (i := i) hi2)) ?_
     conv => whnf
     refine sym_pure hC (in9_pure (gi D i) 0 (IntKind.i64.wrap ((T.length : Int) - 1))) ?_
     conv => whnf
     by_cases h1 : 0 ≤ gi D i ∧ gi D i < (T.length : Int)
     ·refine bool_false (nt_t (decide_eq_true (show 0 ≤ gi D i ∧ gi D i ≤ IntKind.i64.wrap ((T.length : Int) - 1) by rw [ew]; omega))) ?_
      conv => whnf
      exact ⟨i + 1, ⟨hi2, fun j hj2 => by
       by_cases e : j = i
       ·subst e; exact h1
       ·exact hj j (by omega)⟩, by omega, (by refine ⟨rfl, rfl, rfl, rfl, ?_, ?_⟩ <;> repeat' (first | exact trivial | exact rfl | exact Nat.zero_le _ | exact congrArg (fun z => some (AV.int .i64 z)) (show IntKind.i64.wrap (Int.ofNat i + 1) = Int.ofNat (i + 1) from wrapN (m := i + 1) (by omega)) | exact bdl_no lT | exact bdl_no lD | exact Nat.le_of_ble_eq_true rfl | exact bdl_no (by assumption) | exact bdl_no (flat_no _) | exact bdl_no (ivs_no _) | exact Nat.max_le.2 ⟨Nat.le_of_ble_eq_true rfl, bdl_no (ivs_no _)⟩ | apply And.intro))⟩
     ·refine bool_true (nt_f (decide_eq_false (show ¬ (0 ≤ gi D i ∧ gi D i ≤ IntKind.i64.wrap ((T.length : Int) - 1)) by rw [ew]; omega))) ?_
      conv => whnf
      rw [decide_eq_false (show ¬ plOk T.length D from fun z => h1 (z.2 i hi2))]
      exact ⟨_, rfl, Wk.refl _⟩
    ·refine bool_false (ltN_f hi2) ?_
     conv => whnf
     have e : decide (plOk T.length D) = ((D.length : Int) == (T.length : Int)) := by
      rw [Bool.eq_iff_iff, decide_eq_true_iff, beq_iff_eq]
      exact ⟨fun z => congrArg (fun n : Nat => (n : Int)) z.1, fun z => ⟨Int.ofNat.inj z, fun j hj2 => hj j (by omega)⟩⟩
     rw [e]
     exact ⟨_, rfl, Wk.refl _⟩
end
end Go.Abs.Seat

/-! New links: how far each is, which one is better. -/
namespace Go.Abs.Seat
noncomputable section
open Go Go.Abs Go.Proofs.Tryz
set_option maxRecDepth 100000
set_option maxHeartbeats 40000000
attribute [local irreducible] IntKind.wrap pEq

theorem isRange_pure (a b : Int) : Pure prog 101 [iv a, iv b] (.bool (decide ((tth a ∧ tth b) ∧ a ≤ b))) := by
 by_cases h1 : tth a
 ·have c1 : decide (tth a) = true := decide_eq_true h1
  by_cases h2 : tth b
  ·have c2 : decide (tth b) = true := decide_eq_true h2
   refine pure_sym hE rfl (by repeat' (first | exact trivial | assumption | exact flat_no _ | exact (fun _ h => nomatch h) | apply And.intro)) (by repeat' (first | exact trivial | assumption | exact flat_no _ | exact (fun _ h => nomatch h) | apply And.intro)) fun S q pc hS hq hC hE => ?_
   conv => whnf
   repeat ((first
    |refine ko_rT c1 ?_
    |refine ko_sF c1 ?_
    |refine plan_as (pick_t c1) ?_
    |refine bool_true c1 ?_
    |refine ko_rT c2 ?_
    |refine ko_sF c2 ?_
    |refine plan_as (pick_t c2) ?_
    |refine bool_true c2 ?_
    |refine ko_rT (gd_tt c1) ?_
    |refine ko_sF (gd_tt c1) ?_
    |refine plan_as (pick_t (gd_tt c1)) ?_
    |refine bool_true (gd_tt c1) ?_
    |refine ko_rT (gd_tt c2) ?_
    |refine ko_sF (gd_tt c2) ?_
    |refine plan_as (pick_t (gd_tt c2)) ?_
    |refine bool_true (gd_tt c2) ?_
    |refine sym_pure hC (sTeeth_pure a) ?_
    |refine sym_pure hC (sTeeth_pure b) ?_
    |refine sym_drawn hS (by kernel_rfl) ?_); conv => whnf)
   exact ⟨_, rfl, wkb (by simp [h1, h2])⟩
  ·have c2 : decide (tth b) = false := decide_eq_false h2
   refine pure_sym hE rfl (by repeat' (first | exact trivial | assumption | exact flat_no _ | exact (fun _ h => nomatch h) | apply And.intro)) (by repeat' (first | exact trivial | assumption | exact flat_no _ | exact (fun _ h => nomatch h) | apply And.intro)) fun S q pc hS hq hC hE => ?_
   conv => whnf
   repeat ((first
    |refine ko_rT c1 ?_
    |refine ko_sF c1 ?_
    |refine plan_as (pick_t c1) ?_
    |refine bool_true c1 ?_
    |refine ko_sT c2 ?_
    |refine ko_rF c2 ?_
    |refine plan_as (pick_f c2) ?_
    |refine bool_false c2 ?_
    |refine ko_rT (gd_tt c1) ?_
    |refine ko_sF (gd_tt c1) ?_
    |refine plan_as (pick_t (gd_tt c1)) ?_
    |refine bool_true (gd_tt c1) ?_
    |refine ko_sT (gd_tf c2) ?_
    |refine ko_rF (gd_tf c2) ?_
    |refine plan_as (pick_f (gd_tf c2)) ?_
    |refine bool_false (gd_tf c2) ?_
    |refine sym_pure hC (sTeeth_pure a) ?_
    |refine sym_pure hC (sTeeth_pure b) ?_
    |refine sym_drawn hS (by kernel_rfl) ?_); conv => whnf)
   exact ⟨_, rfl, wkb (by simp [h2])⟩
 ·have c1 : decide (tth a) = false := decide_eq_false h1
  refine pure_sym hE rfl (by repeat' (first | exact trivial | assumption | exact flat_no _ | exact (fun _ h => nomatch h) | apply And.intro)) (by repeat' (first | exact trivial | assumption | exact flat_no _ | exact (fun _ h => nomatch h) | apply And.intro)) fun S q pc hS hq hC hE => ?_
  conv => whnf
  repeat ((first
   |refine ko_sT c1 ?_
   |refine ko_rF c1 ?_
   |refine plan_as (pick_f c1) ?_
   |refine bool_false c1 ?_
   |refine ko_sT (gd_tf c1) ?_
   |refine ko_rF (gd_tf c1) ?_
   |refine plan_as (pick_f (gd_tf c1)) ?_
   |refine bool_false (gd_tf c1) ?_
   |refine sym_pure hC (sTeeth_pure a) ?_
   |refine sym_drawn hS (by kernel_rfl) ?_); conv => whnf)
  exact ⟨_, rfl, wkb (by simp [h1])⟩
theorem sFraction_pure (a b : Int) : Pure prog 102 [fv a b] (.bool (decide (isF a b))) := by
 by_cases h1 : 0 ≤ a ∧ a ≤ 50000
 ·have c1 : decide (0 ≤ a ∧ a ≤ 50000) = true := decide_eq_true h1
  refine pure_sym hE rfl (by repeat' (first | exact trivial | assumption | exact flat_no _ | exact (fun _ h => nomatch h) | apply And.intro)) (by repeat' (first | exact trivial | assumption | exact flat_no _ | exact (fun _ h => nomatch h) | apply And.intro)) fun S q pc hS hq hC hE => ?_
  conv => whnf
  repeat ((first
   |refine ko_rT c1 ?_
   |refine ko_sF c1 ?_
   |refine plan_as (pick_t c1) ?_
   |refine bool_true c1 ?_
   |refine ko_rT (gd_tt c1) ?_
   |refine ko_sF (gd_tt c1) ?_
   |refine plan_as (pick_t (gd_tt c1)) ?_
   |refine bool_true (gd_tt c1) ?_
   |refine sym_pure hC (sin_pure a 0 50000) ?_
   |refine sym_pure hC (sin_pure b 1 50000) ?_
   |refine sym_drawn hS (by kernel_rfl) ?_); conv => whnf)
  exact ⟨_, rfl, wkb (by unfold isF; simp [h1])⟩
 ·have c1 : decide (0 ≤ a ∧ a ≤ 50000) = false := decide_eq_false h1
  refine pure_sym hE rfl (by repeat' (first | exact trivial | assumption | exact flat_no _ | exact (fun _ h => nomatch h) | apply And.intro)) (by repeat' (first | exact trivial | assumption | exact flat_no _ | exact (fun _ h => nomatch h) | apply And.intro)) fun S q pc hS hq hC hE => ?_
  conv => whnf
  repeat ((first
   |refine ko_sT c1 ?_
   |refine ko_rF c1 ?_
   |refine plan_as (pick_f c1) ?_
   |refine bool_false c1 ?_
   |refine ko_sT (gd_tf c1) ?_
   |refine ko_rF (gd_tf c1) ?_
   |refine plan_as (pick_f (gd_tf c1)) ?_
   |refine bool_false (gd_tf c1) ?_
   |refine sym_pure hC (sin_pure a 0 50000) ?_
   |refine sym_drawn hS (by kernel_rfl) ?_); conv => whnf)
  exact ⟨_, rfl, wkb (by unfold isF; simp [h1])⟩
theorem sdist_pure (a b n d : Nat) (h1 : a * d < 4611686018427387904) (h2 : n * b < 4611686018427387904) : Pure prog 105 [fv (Int.ofNat a) (Int.ofNat b), fv (Int.ofNat n) (Int.ofNat d)] (qf (dQ n d (a, b))) := by
 refine pure_sym hE rfl (by repeat' (first | exact trivial | assumption | exact flat_no _ | exact (fun _ h => nomatch h) | apply And.intro)) (by repeat' (first | exact trivial | assumption | exact flat_no _ | exact (fun _ h => nomatch h) | apply And.intro)) fun S q pc hS hq hC hE => ?_
 conv => whnf
 refine ⟨_, rfl, wkE ?_⟩
 rw [show IntKind.i64.wrap (Int.ofNat a * Int.ofNat d) = Int.ofNat (a * d) from wrapN (m := a * d) (by omega), show IntKind.i64.wrap (Int.ofNat n * Int.ofNat b) = Int.ofNat (n * b) from wrapN (m := n * b) (by omega),
  wrapI (by show _ ≤ (_ : Int) - _; simp only [Int.ofNat_eq_natCast]; omega) (by simp only [Int.ofNat_eq_natCast]; omega), maxI_neg h1 h2]
 rfl
abbrev hpA (N : List Lk) (M : List Int) (n d : Nat) (W0 W2 W4 : AObj) : Tr AObj :=
 .node W0 (.node (.cells (.node (nv n) (.node (nv d) .nil .nil) .nil) 2 36) (.node (.cells (.node (nkA N) (.node (nl M) .nil .nil) (.node (pv (zp (rtL N (N.length + 1)))) .nil .nil)) 3 138) .nil .nil) (.node (.cells (.node (.func (.func 104) [] [.ptr 3 0, .ptr 1 0]) .nil .nil) 1 146) .nil .nil)) (.node W2 (.node W4 .nil .nil) .nil)
theorem hpA_end (N : List Lk) (M : List Int) (n d : Nat) (W0 W2 W4 : AObj) : HEnd (hpA N M n d W0 W2 W4) 6 := appT_end [W0, .cells (.node (nv n) (.node (nv d) .nil .nil) .nil) 2 36, W2, .cells (.node (nkA N) (.node (nl M) .nil .nil) (.node (pv (zp (rtL N (N.length + 1)))) .nil .nil)) 3 138, W4, .cells (.node (.func (.func 104) [] [.ptr 3 0, .ptr 1 0]) .nil .nil) 1 146] 0 .nil HEnd_nil
abbrev lkV (x : Lk) : AV := .agg [nv x.1, nv x.2.1, nv x.2.2]
def wyA (N : List Lk) (n d : Nat) (x : Lk) : Nat × Nat := dQ n d ((rtA N x.1).1 * x.2.1, (rtA N x.1).2 * x.2.2)
structure nwL (N : List Lk) (x : Lk) : Prop where
 f : x.1 ≤ N.length
 a : x.2.1 ≤ 60
 b : x.2.2 ≤ 60
theorem wyA_le {N : List Lk} (h : okN N) {n d : Nat} (hn : n ≤ 50000) (hd : d ≤ 50000) {x : Lk} (hx : nwL N x) : ((rtA N x.1).1 * x.2.1 ≤ 12960000 ∧ (rtA N x.1).2 * x.2.2 ≤ 12960000) ∧ (wyA N n d x).1 ≤ 648000000000 ∧ (wyA N n d x).2 ≤ 12960000 := by
 have hb := rtA_le h hx.f
 have m1 : (rtA N x.1).1 * x.2.1 ≤ 216000 * 60 := Nat.mul_le_mul hb.1.2 hx.a
 have m2 : (rtA N x.1).2 * x.2.2 ≤ 216000 * 60 := Nat.mul_le_mul hb.2.2 hx.b
 have m3 : (rtA N x.1).1 * x.2.1 * d ≤ 12960000 * 50000 := Nat.mul_le_mul (by omega) hd
 have m4 : n * ((rtA N x.1).2 * x.2.2) ≤ 50000 * 12960000 := Nat.mul_le_mul hn (by omega)
 refine ⟨⟨by omega, by omega⟩, ?_, by show (rtA N x.1).2 * x.2.2 ≤ _; omega⟩
 show gp ((rtA N x.1).1 * x.2.1 * d) (n * ((rtA N x.1).2 * x.2.2)) ≤ _
 unfold gp
 omega
theorem away_h {N : List Lk} (h : okN N) {M : List Int} {n d : Nat} (hn : n ≤ 50000) (hd : d ≤ 50000) {W0 W2 W4 : AObj} (b0 : BdO 6 W0) (b2 : BdO 6 W2) (b4 : BdO 6 W4) {x : Lk} (hx : nwL N x) :
  HFun prog 104 [lkV x, .ptr 3 0, .ptr 1 0] (hv (hpA N M n d W0 W2 W4)) 6 (qf (wyA N n d x)) (hv (hpA N M n d W0 W2 W4)) := by
 have lN := lks_no (cL N)
 have lM := ivs_no M
 have lR := flat_no (zp (rtL N (N.length + 1)))
 have hBd : ObBd 6 (hpA N M n d W0 W2 W4) 6 := by
  repeat' (first | exact trivial | exact b0 | exact b2 | exact b4 | exact Nat.zero_le _ | exact bdl_no lN | exact bdl_no lM | exact bdl_no lR | exact Nat.le_of_ble_eq_true rfl | apply And.intro | exact Nat.max_le.2 ⟨Nat.zero_le _, bdl_no lN⟩)
 refine hfun_sym hE rfl (hpA_end N M n d W0 W2 W4) (Nat.le_of_ble_eq_true rfl) (Nat.zero_le _) hBd hBd fun S q pc hS hq hC hE => ?_
 have hf := hx.f
 have hb := wyA_le h hn hd hx
 have tk : takeN 2 (dropN (x.1 * 2) (flat (zp (rtL N (N.length + 1))))) = some [nv (rtA N x.1).1, nv (rtA N x.1).2] := by
  rw [tak_zp _ (by rw [rtL_len]; omega), rtL_get N (by omega)]
 have m3 : (rtA N x.1).1 * x.2.1 * d ≤ 12960000 * 50000 := Nat.mul_le_mul hb.1.1 hd
 have m4 : n * ((rtA N x.1).2 * x.2.2) ≤ 50000 * 12960000 := Nat.mul_le_mul hn hb.1.2
 conv => whnf
 refine bool_true ((show inR (Int.ofNat x.1) (zp (rtL N (N.length + 1))).length = true by rw [zp_len, rtL_len]; exact inR_t (by omega))) ?_
 conv => whnf
 refine plan_as (takP tk) ?_
 conv => whnf
 rw [mulN (a := (rtA N x.1).1) (b := x.2.1) (by omega), mulN (a := (rtA N x.1).2) (b := x.2.2) (by omega)]
 refine sym_pure hC (sdist_pure ((rtA N x.1).1 * x.2.1) ((rtA N x.1).2 * x.2.2) n d (by omega) (by omega)) ?_
 conv => whnf
 exact ⟨_, rfl, WkV.refl _, rfl, rfl, rfl, rfl, rfl, rfl, trivial⟩
theorem ob6 {h h' : Tr AObj} (e0 : hv h 0 = hv h' 0) (e1 : hv h 1 = hv h' 1) (e2 : hv h 2 = hv h' 2) (e3 : hv h 3 = hv h' 3) (e4 : hv h 4 = hv h' 4) (e5 : hv h 5 = hv h' 5) : ∀ i, i < 6 → hv h i = hv h' i
 | 0, _ => e0
 | 1, _ => e1
 | 2, _ => e2
 | 3, _ => e3
 | 4, _ => e4
 | 5, _ => e5
 | _ + 6, h => absurd h (by omega)
def btL (N : List Lk) (n d : Nat) (x y : Lk) : Prop := (wyA N n d x).1 * (wyA N n d y).2 < (wyA N n d y).1 * (wyA N n d x).2
instance (N : List Lk) (n d : Nat) (x y : Lk) : Decidable (btL N n d x y) := Nat.decLt _ _
theorem better_h {N : List Lk} (h : okN N) {M : List Int} {n d : Nat} (hn : n ≤ 50000) (hd : d ≤ 50000) {W0 W2 W4 : AObj} (b0 : BdO 6 W0) (b2 : BdO 6 W2) (b4 : BdO 6 W4) {x y : Lk} (hx : nwL N x) (hy : nwL N y) :
  HFun prog 107 [lkV x, lkV y, .ptr 5 0] (hv (hpA N M n d W0 W2 W4)) 6 (.bool (decide (btL N n d x y))) (hv (hpA N M n d W0 W2 W4)) := by
 have lN := lks_no (cL N)
 have lM := ivs_no M
 have lR := flat_no (zp (rtL N (N.length + 1)))
 have hBd : ObBd 6 (hpA N M n d W0 W2 W4) 6 := by
  repeat' (first | exact trivial | exact b0 | exact b2 | exact b4 | exact Nat.zero_le _ | exact bdl_no lN | exact bdl_no lM | exact bdl_no lR | exact Nat.le_of_ble_eq_true rfl | apply And.intro | exact Nat.max_le.2 ⟨Nat.zero_le _, bdl_no lN⟩)
 have ax := away_h h (M := M) hn hd b0 b2 b4 hx
 have ay := away_h h (M := M) hn hd b0 b2 b4 hy
 have gx := (wyA_le h hn hd hx).2
 have gy := (wyA_le h hn hd hy).2
 have m1 : (wyA N n d x).1 * (wyA N n d y).2 ≤ 648000000000 * 12960000 := Nat.mul_le_mul gx.1 gy.2
 have m2 : (wyA N n d y).1 * (wyA N n d x).2 ≤ 648000000000 * 12960000 := Nat.mul_le_mul gy.1 gx.2
 refine hfun_sym hE rfl (hpA_end N M n d W0 W2 W4) (Nat.le_of_ble_eq_true rfl) (Nat.zero_le _) hBd hBd fun S q pc hS hq hC hE => ?_
 conv => whnf
 refine sym_pureR hC (HFun.pureR ax (ob6 rfl rfl rfl rfl rfl rfl)) ?_
 conv => whnf
 refine sym_pureR hC (HFun.pureR ay (ob6 rfl rfl rfl rfl rfl rfl)) ?_
 conv => whnf
 refine sym_drawn hS (by kernel_rfl) ?_
 conv => whnf
 refine ⟨_, rfl, WkV.eq ?_, rfl, rfl, rfl, rfl, rfl, rfl, trivial⟩
 rw [mulN (a := (wyA N n d x).1) (b := (wyA N n d y).2) (by omega), mulN (a := (wyA N n d y).1) (b := (wyA N n d x).2) (by omega)]
 exact congrArg AV.bool (decide_eq_decide.2 Int.ofNat_lt)
def bsN (N : List Lk) (n d : Nat) (l : List Lk) : Nat → Lk
 | 0 => (0, 0, 0)
 |i + 1 => if i = 0 ∨ btL N n d (gN l i) (bsN N n d l i) then gN l i else bsN N n d l i
theorem bsN_ok {N : List Lk} {n d : Nat} {l : List Lk} (hl : ∀ x, x ∈ l → nwL N x) : ∀ i, i ≤ l.length → nwL N (bsN N n d l i)
 | 0, _ => ⟨Nat.zero_le _, Nat.zero_le _, Nat.zero_le _⟩
 |i + 1, h => by
  rw [bsN]
  split
  ·exact hl _ (gN_mem l h)
  ·exact bsN_ok hl i (by omega)
end
end Go.Abs.Seat
