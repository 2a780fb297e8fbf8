/-
  What the program tells of a piece: trains, rates, how far off.
  Whether a list is a packing, as the program tells it.
  Books of accounts: what is as defined.
  Books of accounts: balances.
  Books of accounts: all balances.
  Books of accounts: Balances.
  Books of accounts, plain: what must be paid with some entries.
  Books of accounts, plain: what is paid with the fewest entries is a forest; there is one.
  Books of accounts, plain: the best settlement.
  A piece with a change.
-/
import Derived.Test.YtlmadgdonalncaaGreatDoorB16
import Derived.Test.YtlmadgdonalncaaGreatDoorU7
import Derived.Test.YtlmadgdonalncaaGreatDoorU10
import Derived.Test.YtlmadgdonalncaaGreatDoorU5
/-! What the program tells of a piece: trains, rates, how far off. -/
namespace Go.Abs.Seat
noncomputable section
open Go Go.Abs Go.Proofs.Tryz
set_option maxRecDepth 100000
set_option maxHeartbeats 40000000
attribute [local irreducible] IntKind.wrap pEq

structure pcN (N : List Lk) (H : List Nat) : Prop where
 ok : okN N
 l1 : 1 ≤ N.length
 l5 : N.length ≤ 5
 h1 : 1 ≤ H.length
 h4 : H.length ≤ 4
 hd : ∀ x, x ∈ H → 1 ≤ x ∧ x ≤ N.length
theorem pcN.pc {N : List Lk} {H : List Nat} (h : pcN N H) : pcOk (cL N) (zl H) := by
 refine ⟨⟨by rw [cL_len]; exact ⟨h.l1, h.l5⟩, by rw [zl_len]; exact ⟨h.h1, h.h4⟩⟩, ⟨N, rfl, h.ok⟩, fun j hj => ?_⟩
 rw [zl_len] at hj
 rw [gi_zl H hj, cL_len]
 have := h.hd _ (gn_mem H hj)
 exact ⟨Int.ofNat_le.2 this.1, Int.ofNat_le.2 this.2⟩
end
end Go.Abs.Seat

/-! Whether a list is a packing, as the program tells it. -/
namespace Go.Abs.Seat
noncomputable section
open Go Go.Abs Go.Proofs.Tryz
set_option maxRecDepth 100000
set_option maxHeartbeats 40000000
attribute [local irreducible] IntKind.wrap pEq

def swOk (l s : Int) : Prop := (1 ≤ l ∧ l ≤ 500) ∧ 0 ≤ s ∧ s ≤ 9
instance (l s : Int) : Decidable (swOk l s) := instDecidableAnd
def plOk (k : Nat) (D : List Int) : Prop := D.length = k ∧ ∀ j, j < D.length → 0 ≤ gi D j ∧ gi D j < (k : Int)
instance (k : Nat) (D : List Int) : Decidable (plOk k D) := Classical.propDecidable _
end
end Go.Abs.Seat

/-! Books of accounts: what is as defined. -/
namespace Go.Abs.Seat
noncomputable section
open Go Go.Abs Go.Proofs.Tryz
set_option maxRecDepth 100000
set_option maxHeartbeats 40000000
attribute [local irreducible] IntKind.wrap pEq

def enOk (a : Int) (e : LkI) : Prop := (0 ≤ e.1 ∧ e.1 < a) ∧ (0 ≤ e.2.1 ∧ e.2.1 < a) ∧ e.1 ≠ e.2.1 ∧ 0 ≤ e.2.2 ∧ e.2.2 ≤ 1000000
instance (a : Int) (e : LkI) : Decidable (enOk a e) := Classical.propDecidable _
def allE (a : Int) (L : List LkI) : Prop := ∀ j, j < L.length → enOk a (gL L j)
def bkOk (a : Int) (L : List LkI) : Prop := (2 ≤ a ∧ a ≤ 5) ∧ L.length ≤ 8 ∧ allE a L
instance (a : Int) (L : List LkI) : Decidable (bkOk a L) := Classical.propDecidable _
theorem isBook_L {L : List LkI} (hl : L.length ≤ 8) {a : Int} (ha : 2 ≤ a ∧ a ≤ 5) : Pure prog 62 [.agg [iv a, lkA L]] (.bool (decide (bkOk a L))) := by
 obtain ⟨B, hB⟩ : ∃ B, decide (bkOk a L) = B := ⟨_, rfl⟩
 rw [hB]
 have lL := lks_no L
 have k2 : decide ((L.length : Int) ≤ 8) = true := decide_eq_true (by omega)
 have k1 : decide (2 ≤ a ∧ a ≤ 5) = true := decide_eq_true ha
 have hw : IntKind.i64.wrap (a - 1) = a - 1 := wrapI (by omega) (by omega)
 refine pure_sym hE rfl (by repeat' (first | exact trivial | assumption | exact flat_no _ | exact (fun _ h => nomatch h) | apply And.intro)) (by repeat' (first | exact trivial | assumption | exact flat_no _ | exact (fun _ h => nomatch h) | apply And.intro)) fun S q pc hS hq hC hE => ?_
 conv => whnf
 repeat ((first
  |refine ko_rT k1 ?_
  |refine ko_sF k1 ?_
  |refine plan_as (pick_t k1) ?_
  |refine bool_true k1 ?_
  |refine ko_rT k2 ?_
  |refine ko_sF k2 ?_
  |refine plan_as (pick_t k2) ?_
  |refine bool_true k2 ?_
  |refine ko_rT (gd_tt k1) ?_
  |refine ko_sF (gd_tt k1) ?_
  |refine plan_as (pick_t (gd_tt k1)) ?_
  |refine bool_true (gd_tt k1) ?_
  |refine ko_rT (gd_tt k2) ?_
  |refine ko_sF (gd_tt k2) ?_
  |refine plan_as (pick_t (gd_tt k2)) ?_
  |refine bool_true (gd_tt k2) ?_
  |refine sym_pure hC (sin_pure a 2 5) ?_
  |refine sym_drawn hS (by kernel_rfl) ?_); conv => whnf)
 refine sym_call hC ?_
 conv => whnf
 refine sym_inline hE hS ?_
 conv => whnf
 refine sym_call hC ?_
 conv => whnf
 refine sym_inline hE hS ?_
 conv => whnf
 refine sym_loopG hE hS (A := Nat) [0, 1, 7] (fun i => [(8, nv i)]) (fun _ => []) (fun _ => []) (fun i => i ≤ L.length ∧ ∀ j, j < i → enOk a (gL L j)) (fun i => L.length - i) 0 (Nat.le_of_ble_eq_true rfl) rfl (by refine ⟨rfl, rfl, rfl, rfl, rfl, rfl, 1, rfl, ?_, ?_⟩ <;> repeat' (first | exact trivial | exact rfl | exact ⟨_, rfl, WkV.refl _⟩ | exact ⟨_, rfl, WkV.own _ _ _⟩ | exact Nat.zero_le _ | exact bdl_no lL | exact Nat.le_of_ble_eq_true rfl | exact bdl_no (by assumption) | exact bdl_no (flat_no _) | exact bdl_no (ivs_no _) | exact bdl_no (svs_no _) | exact Nat.max_le.2 ⟨Nat.le_of_ble_eq_true rfl, bdl_no (ivs_no _)⟩ | exact Nat.max_le.2 ⟨Nat.le_of_ble_eq_true rfl, bdl_no (svs_no _)⟩ | apply And.intro)) ⟨Nat.zero_le _, fun _ h => absurd h (Nat.not_lt_zero _)⟩ ?_
 intro i ⟨hi, hj⟩ K hK
 obtain rfl : K = 1 := hK
 conv => whnf
 by_cases hi2 : i < L.length
 ·refine bool_true (ltN_t hi2) ?_
  conv => whnf
  refine bool_true (inR_t hi2) ?_
  conv => whnf
  refine plan_as (takP (tak_lk L hi2)) ?_
  conv => whnf
  refine sym_call hC ?_
  conv => whnf
  refine sym_inline hE hS ?_
  conv => whnf
  have nx : enOk a (gL L i) → ∀ j, j < i + 1 → enOk a (gL L j) := fun z j h => by
   by_cases q : j = i
   ·subst q; exact z
   ·exact hj j (by omega)
  have hi1 : IntKind.i64.wrap (Int.ofNat i + 1) = Int.ofNat (i + 1) := wrapN (m := i + 1) (by omega)
  have bad : ¬ enOk a (gL L i) → decide (bkOk a L) = false := fun z => decide_eq_false fun k => z (k.2.2 i hi2)
  by_cases p1 : 0 ≤ (gL L i).1 ∧ (gL L i).1 < a
  ·have c1 : (!decide (0 ≤ (gL L i).1 ∧ (gL L i).1 ≤ IntKind.i64.wrap (a - 1))) = false := nt_t (decide_eq_true (by rw [hw]; omega))
   by_cases p2 : 0 ≤ (gL L i).2.1 ∧ (gL L i).2.1 < a
   ·have c2 : (!decide (0 ≤ (gL L i).2.1 ∧ (gL L i).2.1 ≤ IntKind.i64.wrap (a - 1))) = false := nt_t (decide_eq_true (by rw [hw]; omega))
    by_cases p3 : (gL L i).1 = (gL L i).2.1
    ·have c3 : ((gL L i).1 == (gL L i).2.1) = true := beq_iff_eq.2 p3
     repeat ((first
      |refine ko_sT c1 ?_
      |refine ko_rF c1 ?_
      |refine plan_as (pick_f c1) ?_
      |refine bool_false c1 ?_
      |refine ko_rT (gff c1) ?_
      |refine ko_sF (gff c1) ?_
      |refine plan_as (pick_t (gff c1)) ?_
      |refine bool_true (gff c1) ?_
      |refine ko_sT c2 ?_
      |refine ko_rF c2 ?_
      |refine plan_as (pick_f c2) ?_
      |refine bool_false c2 ?_
      |refine ko_rT (gff c2) ?_
      |refine ko_sF (gff c2) ?_
      |refine plan_as (pick_t (gff c2)) ?_
      |refine bool_true (gff c2) ?_
      |refine ko_rT c3 ?_
      |refine ko_sF c3 ?_
      |refine plan_as (pick_t c3) ?_
      |refine bool_true c3 ?_
      |refine ko_sT (gft c3) ?_
      |refine ko_rF (gft c3) ?_
      |refine plan_as (pick_f (gft c3)) ?_
      |refine bool_false (gft c3) ?_
      |refine ko_rT k2 ?_
      |refine ko_sF k2 ?_
      |refine plan_as (pick_t k2) ?_
      |refine bool_true k2 ?_
      |refine ko_rT (gd_tt k2) ?_
      |refine ko_sF (gd_tt k2) ?_
      |refine plan_as (pick_t (gd_tt k2)) ?_
      |refine bool_true (gd_tt k2) ?_
      |refine sym_pure hC (sin_pure (gL L i).1 0 (IntKind.i64.wrap (a - 1))) ?_
      |refine sym_pure hC (sin_pure (gL L i).2.1 0 (IntKind.i64.wrap (a - 1))) ?_
      |refine sym_drawn hS (by kernel_rfl) ?_); conv => whnf)
     conv => whnf
     exact ⟨_, rfl, wkb ((bad (fun z => z.2.2.1 p3)).symm.trans hB)⟩
    ·have c3 : ((gL L i).1 == (gL L i).2.1) = false := beq_eq_false_iff_ne.2 p3
     by_cases p4 : 0 ≤ (gL L i).2.2 ∧ (gL L i).2.2 ≤ 1000000
     ·have c4 : (!decide (0 ≤ (gL L i).2.2 ∧ (gL L i).2.2 ≤ 1000000)) = false := nt_t (decide_eq_true p4)
      repeat ((first
       |refine ko_sT c1 ?_
       |refine ko_rF c1 ?_
       |refine plan_as (pick_f c1) ?_
       |refine bool_false c1 ?_
       |refine ko_rT (gff c1) ?_
       |refine ko_sF (gff c1) ?_
       |refine plan_as (pick_t (gff c1)) ?_
       |refine bool_true (gff c1) ?_
       |refine ko_sT c2 ?_
       |refine ko_rF c2 ?_
       |refine plan_as (pick_f c2) ?_
       |refine bool_false c2 ?_
       |refine ko_rT (gff c2) ?_
       |refine ko_sF (gff c2) ?_
       |refine plan_as (pick_t (gff c2)) ?_
       |refine bool_true (gff c2) ?_
       |refine ko_sT c3 ?_
       |refine ko_rF c3 ?_
       |refine plan_as (pick_f c3) ?_
       |refine bool_false c3 ?_
       |refine ko_rT (gff c3) ?_
       |refine ko_sF (gff c3) ?_
       |refine plan_as (pick_t (gff c3)) ?_
       |refine bool_true (gff c3) ?_
       |refine ko_sT c4 ?_
       |refine ko_rF c4 ?_
       |refine plan_as (pick_f c4) ?_
       |refine bool_false c4 ?_
       |refine sym_pure hC (sin_pure (gL L i).1 0 (IntKind.i64.wrap (a - 1))) ?_
       |refine sym_pure hC (sin_pure (gL L i).2.1 0 (IntKind.i64.wrap (a - 1))) ?_
       |refine sym_pure hC (sin_pure (gL L i).2.2 0 1000000) ?_
       |refine sym_drawn hS (by kernel_rfl) ?_); conv => whnf)
      exact ⟨i + 1, ⟨hi2, nx ⟨p1, p2, p3, p4⟩⟩, by omega, Nat.le_refl _, (by refine ⟨rfl, rfl, rfl, rfl, rfl, rfl, 1, rfl, ?_, ?_⟩ <;> repeat' (first | exact trivial | exact rfl | exact ⟨_, rfl, WkV.refl _⟩ | exact ⟨_, rfl, WkV.own _ _ _⟩ | exact Nat.zero_le _ | exact ⟨_, rfl, WkV.int hi1⟩ | exact bdl_no lL | exact Nat.le_of_ble_eq_true rfl | exact bdl_no (by assumption) | exact bdl_no (flat_no _) | exact bdl_no (ivs_no _) | exact bdl_no (svs_no _) | exact Nat.max_le.2 ⟨Nat.le_of_ble_eq_true rfl, bdl_no (ivs_no _)⟩ | exact Nat.max_le.2 ⟨Nat.le_of_ble_eq_true rfl, bdl_no (svs_no _)⟩ | apply And.intro))⟩
     ·have c4 : (!decide (0 ≤ (gL L i).2.2 ∧ (gL L i).2.2 ≤ 1000000)) = true := nt_f (decide_eq_false p4)
      repeat ((first
       |refine ko_sT c1 ?_
       |refine ko_rF c1 ?_
       |refine plan_as (pick_f c1) ?_
       |refine bool_false c1 ?_
       |refine ko_rT (gff c1) ?_
       |refine ko_sF (gff c1) ?_
       |refine plan_as (pick_t (gff c1)) ?_
       |refine bool_true (gff c1) ?_
       |refine ko_sT c2 ?_
       |refine ko_rF c2 ?_
       |refine plan_as (pick_f c2) ?_
       |refine bool_false c2 ?_
       |refine ko_rT (gff c2) ?_
       |refine ko_sF (gff c2) ?_
       |refine plan_as (pick_t (gff c2)) ?_
       |refine bool_true (gff c2) ?_
       |refine ko_sT c3 ?_
       |refine ko_rF c3 ?_
       |refine plan_as (pick_f c3) ?_
       |refine bool_false c3 ?_
       |refine ko_rT (gff c3) ?_
       |refine ko_sF (gff c3) ?_
       |refine plan_as (pick_t (gff c3)) ?_
       |refine bool_true (gff c3) ?_
       |refine ko_rT c4 ?_
       |refine ko_sF c4 ?_
       |refine plan_as (pick_t c4) ?_
       |refine bool_true c4 ?_
       |refine ko_rT k2 ?_
       |refine ko_sF k2 ?_
       |refine plan_as (pick_t k2) ?_
       |refine bool_true k2 ?_
       |refine ko_rT (gd_tt k2) ?_
       |refine ko_sF (gd_tt k2) ?_
       |refine plan_as (pick_t (gd_tt k2)) ?_
       |refine bool_true (gd_tt k2) ?_
       |refine sym_pure hC (sin_pure (gL L i).1 0 (IntKind.i64.wrap (a - 1))) ?_
       |refine sym_pure hC (sin_pure (gL L i).2.1 0 (IntKind.i64.wrap (a - 1))) ?_
       |refine sym_pure hC (sin_pure (gL L i).2.2 0 1000000) ?_
       |refine sym_drawn hS (by kernel_rfl) ?_); conv => whnf)
      conv => whnf
      exact ⟨_, rfl, wkb ((bad (fun z => p4 z.2.2.2)).symm.trans hB)⟩
   ·have c2 : (!decide (0 ≤ (gL L i).2.1 ∧ (gL L i).2.1 ≤ IntKind.i64.wrap (a - 1))) = true := nt_f (decide_eq_false (by rw [hw]; omega))
    repeat ((first
     |refine ko_sT c1 ?_
     |refine ko_rF c1 ?_
     |refine plan_as (pick_f c1) ?_
     |refine bool_false c1 ?_
     |refine ko_rT (gff c1) ?_
     |refine ko_sF (gff c1) ?_
     |refine plan_as (pick_t (gff c1)) ?_
     |refine bool_true (gff c1) ?_
     |refine ko_rT c2 ?_
     |refine ko_sF c2 ?_
     |refine plan_as (pick_t c2) ?_
     |refine bool_true c2 ?_
     |refine ko_sT (gft c2) ?_
     |refine ko_rF (gft c2) ?_
     |refine plan_as (pick_f (gft c2)) ?_
     |refine bool_false (gft c2) ?_
     |refine ko_rT k2 ?_
     |refine ko_sF k2 ?_
     |refine plan_as (pick_t k2) ?_
     |refine bool_true k2 ?_
     |refine ko_rT (gd_tt k2) ?_
     |refine ko_sF (gd_tt k2) ?_
     |refine plan_as (pick_t (gd_tt k2)) ?_
     |refine bool_true (gd_tt k2) ?_
     |refine sym_pure hC (sin_pure (gL L i).1 0 (IntKind.i64.wrap (a - 1))) ?_
     |refine sym_pure hC (sin_pure (gL L i).2.1 0 (IntKind.i64.wrap (a - 1))) ?_
     |refine sym_drawn hS (by kernel_rfl) ?_); conv => whnf)
    conv => whnf
    exact ⟨_, rfl, wkb ((bad (fun z => p2 z.2.1)).symm.trans hB)⟩
  ·have c1 : (!decide (0 ≤ (gL L i).1 ∧ (gL L i).1 ≤ IntKind.i64.wrap (a - 1))) = true := nt_f (decide_eq_false (by rw [hw]; omega))
   repeat ((first
    |refine ko_rT c1 ?_
    |refine ko_sF c1 ?_
    |refine plan_as (pick_t c1) ?_
    |refine bool_true c1 ?_
    |refine ko_sT (gft c1) ?_
    |refine ko_rF (gft c1) ?_
    |refine plan_as (pick_f (gft c1)) ?_
    |refine bool_false (gft c1) ?_
    |refine ko_rT k2 ?_
    |refine ko_sF k2 ?_
    |refine plan_as (pick_t k2) ?_
    |refine bool_true k2 ?_
    |refine ko_rT (gd_tt k2) ?_
    |refine ko_sF (gd_tt k2) ?_
    |refine plan_as (pick_t (gd_tt k2)) ?_
    |refine bool_true (gd_tt k2) ?_
    |refine sym_pure hC (sin_pure (gL L i).1 0 (IntKind.i64.wrap (a - 1))) ?_
    |refine sym_drawn hS (by kernel_rfl) ?_); conv => whnf)
   conv => whnf
   exact ⟨_, rfl, wkb ((bad (fun z => p1 z.1)).symm.trans hB)⟩
 ·refine bool_false (ltN_f hi2) ?_
  conv => whnf
  refine .inl ?_
  conv => whnf
  repeat ((first
   |refine ko_rT k1 ?_
   |refine ko_sF k1 ?_
   |refine plan_as (pick_t k1) ?_
   |refine bool_true k1 ?_
   |refine ko_rT k2 ?_
   |refine ko_sF k2 ?_
   |refine plan_as (pick_t k2) ?_
   |refine bool_true k2 ?_
   |refine sym_drawn hS (by kernel_rfl) ?_); conv => whnf)
  exact ⟨_, rfl, wkb ((decide_eq_true (show bkOk a L from ⟨ha, hl, fun j h => hj j (by omega)⟩)).symm.trans hB)⟩
theorem isBook_no {x : AV} {L : List LkI} (hx : LL x L) {a : Int} (ha : ¬ (2 ≤ a ∧ a ≤ 5)) : Pure prog 62 [.agg [iv a, x]] (.bool false) := by
 have lx := hx.no
 have k1 : decide (2 ≤ a ∧ a ≤ 5) = false := decide_eq_false ha
 rcases hx with ⟨rfl, rfl⟩ | rfl
 all_goals
  refine pure_sym hE rfl (by repeat' (first | exact trivial | assumption | exact flat_no _ | exact (fun _ h => nomatch h) | apply And.intro)) (by repeat' (first | exact trivial | assumption | exact flat_no _ | exact (fun _ h => nomatch h) | apply And.intro)) fun S q pc hS hq hC hE => ?_
  conv => whnf
  repeat ((first
   |refine ko_sT k1 ?_
   |refine ko_rF k1 ?_
   |refine plan_as (pick_f k1) ?_
   |refine bool_false k1 ?_
   |refine ko_sT (gd_tf k1) ?_
   |refine ko_rF (gd_tf k1) ?_
   |refine plan_as (pick_f (gd_tf k1)) ?_
   |refine bool_false (gd_tf k1) ?_
   |refine sym_pure hC (sin_pure a 2 5) ?_
   |refine sym_drawn hS (by kernel_rfl) ?_); conv => whnf)
  exact ⟨_, rfl, Wk.refl _⟩
theorem isBook_big {L : List LkI} (hl : ¬ L.length ≤ 8) {a : Int} (ha : 2 ≤ a ∧ a ≤ 5) : Pure prog 62 [.agg [iv a, lkA L]] (.bool false) := by
 have lL := lks_no L
 have k1 : decide (2 ≤ a ∧ a ≤ 5) = true := decide_eq_true ha
 have k2 : decide ((L.length : Int) ≤ 8) = false := decide_eq_false (by omega)
 refine pure_sym hE rfl (by repeat' (first | exact trivial | assumption | exact flat_no _ | exact (fun _ h => nomatch h) | apply And.intro)) (by repeat' (first | exact trivial | assumption | exact flat_no _ | exact (fun _ h => nomatch h) | apply And.intro)) fun S q pc hS hq hC hE => ?_
 conv => whnf
 repeat ((first
  |refine ko_rT k1 ?_
  |refine ko_sF k1 ?_
  |refine plan_as (pick_t k1) ?_
  |refine bool_true k1 ?_
  |refine ko_sT k2 ?_
  |refine ko_rF k2 ?_
  |refine plan_as (pick_f k2) ?_
  |refine bool_false k2 ?_
  |refine ko_rT (gd_tt k1) ?_
  |refine ko_sF (gd_tt k1) ?_
  |refine plan_as (pick_t (gd_tt k1)) ?_
  |refine bool_true (gd_tt k1) ?_
  |refine ko_sT (gd_tf k2) ?_
  |refine ko_rF (gd_tf k2) ?_
  |refine plan_as (pick_f (gd_tf k2)) ?_
  |refine bool_false (gd_tf k2) ?_
  |refine sym_pure hC (sin_pure a 2 5) ?_
  |refine sym_drawn hS (by kernel_rfl) ?_); conv => whnf)
 exact ⟨_, rfl, Wk.refl _⟩
theorem isBook_nils {a : Int} (ha : 2 ≤ a ∧ a ≤ 5) : Pure prog 62 [.agg [iv a, .nils]] (.bool true) := by
 have k1 : decide (2 ≤ a ∧ a ≤ 5) = true := decide_eq_true ha
 refine pure_sym hE rfl (by repeat' (first | exact trivial | assumption | exact flat_no _ | exact (fun _ h => nomatch h) | apply And.intro)) (by repeat' (first | exact trivial | assumption | exact flat_no _ | exact (fun _ h => nomatch h) | apply And.intro)) fun S q pc hS hq hC hE => ?_
 conv => whnf
 repeat ((first
  |refine ko_rT k1 ?_
  |refine ko_sF k1 ?_
  |refine plan_as (pick_t k1) ?_
  |refine bool_true k1 ?_
  |refine ko_rT (gd_tt k1) ?_
  |refine ko_sF (gd_tt k1) ?_
  |refine plan_as (pick_t (gd_tt k1)) ?_
  |refine bool_true (gd_tt k1) ?_
  |refine sym_pure hC (sin_pure a 2 5) ?_
  |refine sym_drawn hS (by kernel_rfl) ?_); conv => whnf)
 refine sym_call hC ?_
 conv => whnf
 refine sym_inline hE hS ?_
 conv => whnf
 refine sym_call hC ?_
 conv => whnf
 refine sym_inline hE hS ?_
 conv => whnf
 refine sym_unroll hE hS ?_
 conv => whnf
 repeat ((first
  |refine ko_rT k1 ?_
  |refine ko_sF k1 ?_
  |refine plan_as (pick_t k1) ?_
  |refine bool_true k1 ?_
  |refine ko_rT (gd_tt k1) ?_
  |refine ko_sF (gd_tt k1) ?_
  |refine plan_as (pick_t (gd_tt k1)) ?_
  |refine bool_true (gd_tt k1) ?_
  |refine sym_drawn hS (by kernel_rfl) ?_); conv => whnf)
 exact ⟨_, rfl, Wk.refl _⟩
theorem isBook_pure {x : AV} {L : List LkI} (hx : LL x L) (a : Int) : Pure prog 62 [.agg [iv a, x]] (.bool (decide (bkOk a L))) := by
 by_cases ha : 2 ≤ a ∧ a ≤ 5
 ·rcases hx with ⟨rfl, rfl⟩ | rfl
  ·rw [decide_eq_true (show bkOk a [] from ⟨ha, Nat.zero_le _, fun j hj => absurd hj (Nat.not_lt_zero _)⟩)]
   exact isBook_nils ha
  ·by_cases hl : L.length ≤ 8
   ·exact isBook_L hl ha
   ·rw [decide_eq_false (show ¬ bkOk a L from fun z => hl z.2.1)]
    exact isBook_big hl ha
 ·rw [decide_eq_false (show ¬ bkOk a L from fun z => ha z.1)]
  exact isBook_no hx ha
end
end Go.Abs.Seat

/-! Books of accounts: balances. -/
namespace Go.Abs.Seat
noncomputable section
open Go Go.Abs Go.Proofs.Tryz
set_option maxRecDepth 100000
set_option maxHeartbeats 40000000
attribute [local irreducible] IntKind.wrap pEq

def smA (p : LkI → Bool) : Int → List LkI → Int
 |a, [] => a
 |a, e :: r => smA p (if p e = true then a + e.2.2 else a) r
theorem came_pure {L : List LkI} (hl : L.length ≤ 8) (hb : ∀ j, j < L.length → 0 ≤ (gL L j).2.2 ∧ (gL L j).2.2 ≤ 1000000) (a c : Int) : Pure prog 119 [.agg [iv a, lkA L], iv c] (iv (smA (fun e => e.2.1 == c) 0 L)) := by
 have hp : ∀ e : LkI, (fun e : LkI => e.2.1 == c) e = (e.2.1 == c) := fun _ => rfl
 generalize hq : (fun e : LkI => e.2.1 == c) = p at *
 have lL := lks_no L
 refine pure_sym hE rfl (by repeat' (first | exact trivial | assumption | exact flat_no _ | exact (fun _ h => nomatch h) | apply And.intro)) (by repeat' (first | exact trivial | assumption | exact flat_no _ | exact (fun _ h => nomatch h) | apply And.intro)) fun S q pc hS hq hC hE => ?_
 conv => whnf
 refine sym_loopG hE hS (A := Nat × Int) [1, 2, 9, 10] (fun (i, n) => [(5, iv n), (11, nv i)]) (fun _ => []) (fun _ => []) (fun (i, n) => i ≤ L.length ∧ smA p n (L.drop i) = smA p 0 L ∧ 0 ≤ n ∧ n ≤ (i : Int) * 1000000) (fun (i, _) => L.length - i) (0, 0) (Nat.le_of_ble_eq_true rfl) rfl (by refine ⟨rfl, rfl, rfl, rfl, rfl, rfl, 1, rfl, ?_, ?_⟩ <;> repeat' (first | exact trivial | exact rfl | exact ⟨_, rfl, WkV.refl _⟩ | exact ⟨_, rfl, WkV.own _ _ _⟩ | exact Nat.zero_le _ | exact bdl_no lL | exact Nat.le_of_ble_eq_true rfl | exact bdl_no (by assumption) | exact bdl_no (flat_no _) | exact bdl_no (ivs_no _) | exact bdl_no (svs_no _) | exact Nat.max_le.2 ⟨Nat.le_of_ble_eq_true rfl, bdl_no (ivs_no _)⟩ | exact Nat.max_le.2 ⟨Nat.le_of_ble_eq_true rfl, bdl_no (svs_no _)⟩ | apply And.intro)) ⟨Nat.zero_le _, rfl, Int.le_refl _, by simp⟩ ?_
 rintro ⟨i, n⟩ ⟨hi, he, hn1, hn2⟩ K hK
 obtain rfl : K = 1 := hK
 conv => whnf
 by_cases hi2 : i < L.length
 ·rw [drop_gL L hi2, smA] at he
  have hi1 : IntKind.i64.wrap (Int.ofNat i + 1) = Int.ofNat (i + 1) := wrapN (m := i + 1) (by omega)
  have hc := hb i hi2
  have hw : IntKind.i64.wrap (n + (gL L i).2.2) = n + (gL L i).2.2 := wrapI (by have := hc.1; omega) (by have := hc.2; omega)
  refine bool_true (ltN_t hi2) ?_
  conv => whnf
  refine bool_true (inR_t hi2) ?_
  conv => whnf
  refine plan_as (takP (tak_lk L hi2)) ?_
  conv => whnf
  by_cases h1 : p (gL L i) = true
  ·rw [if_pos h1] at he
   refine bool_true (((hp (gL L i)).symm.trans h1)) ?_
   conv => whnf
   exact ⟨(i + 1, n + (gL L i).2.2), ⟨hi2, he, by have := hc.1; omega, by have := hc.2; simp only [Int.natCast_add]; omega⟩, by show L.length - (i + 1) < L.length - i; omega, Nat.le_refl _, (by refine ⟨rfl, rfl, rfl, rfl, rfl, rfl, 1, rfl, ?_, ?_⟩ <;> repeat' (first | exact trivial | exact rfl | exact ⟨_, rfl, WkV.refl _⟩ | exact ⟨_, rfl, WkV.own _ _ _⟩ | exact Nat.zero_le _ | exact ⟨_, rfl, WkV.int hi1⟩ | exact ⟨_, rfl, WkV.int hw⟩ | exact bdl_no lL | exact Nat.le_of_ble_eq_true rfl | exact bdl_no (by assumption) | exact bdl_no (flat_no _) | exact bdl_no (ivs_no _) | exact bdl_no (svs_no _) | exact Nat.max_le.2 ⟨Nat.le_of_ble_eq_true rfl, bdl_no (ivs_no _)⟩ | exact Nat.max_le.2 ⟨Nat.le_of_ble_eq_true rfl, bdl_no (svs_no _)⟩ | apply And.intro))⟩
  ·rw [if_neg h1] at he
   refine bool_false (((hp (gL L i)).symm.trans (Bool.eq_false_iff.2 h1))) ?_
   conv => whnf
   exact ⟨(i + 1, n), ⟨hi2, he, hn1, by simp only [Int.natCast_add]; omega⟩, by show L.length - (i + 1) < L.length - i; omega, Nat.le_refl _, (by refine ⟨rfl, rfl, rfl, rfl, rfl, rfl, 1, rfl, ?_, ?_⟩ <;> repeat' (first | exact trivial | exact rfl | exact ⟨_, rfl, WkV.refl _⟩ | exact ⟨_, rfl, WkV.own _ _ _⟩ | exact Nat.zero_le _ | exact ⟨_, rfl, WkV.int hi1⟩ | exact bdl_no lL | exact Nat.le_of_ble_eq_true rfl | exact bdl_no (by assumption) | exact bdl_no (flat_no _) | exact bdl_no (ivs_no _) | exact bdl_no (svs_no _) | exact Nat.max_le.2 ⟨Nat.le_of_ble_eq_true rfl, bdl_no (ivs_no _)⟩ | exact Nat.max_le.2 ⟨Nat.le_of_ble_eq_true rfl, bdl_no (svs_no _)⟩ | apply And.intro))⟩
 ·refine bool_false (ltN_f hi2) ?_
  conv => whnf
  refine .inl ?_
  conv => whnf
  rw [List.drop_eq_nil_of_le (by omega), smA] at he
  rw [← he]
  exact ⟨_, rfl, Wk.refl _⟩
theorem went_pure {L : List LkI} (hl : L.length ≤ 8) (hb : ∀ j, j < L.length → 0 ≤ (gL L j).2.2 ∧ (gL L j).2.2 ≤ 1000000) (a c : Int) : Pure prog 120 [.agg [iv a, lkA L], iv c] (iv (smA (fun e => e.1 == c) 0 L)) := by
 have hp : ∀ e : LkI, (fun e : LkI => e.1 == c) e = (e.1 == c) := fun _ => rfl
 generalize hq : (fun e : LkI => e.1 == c) = p at *
 have lL := lks_no L
 refine pure_sym hE rfl (by repeat' (first | exact trivial | assumption | exact flat_no _ | exact (fun _ h => nomatch h) | apply And.intro)) (by repeat' (first | exact trivial | assumption | exact flat_no _ | exact (fun _ h => nomatch h) | apply And.intro)) fun S q pc hS hq hC hE => ?_
 conv => whnf
 refine sym_loopG hE hS (A := Nat × Int) [1, 2, 9, 10] (fun (i, n) => [(5, iv n), (11, nv i)]) (fun _ => []) (fun _ => []) (fun (i, n) => i ≤ L.length ∧ smA p n (L.drop i) = smA p 0 L ∧ 0 ≤ n ∧ n ≤ (i : Int) * 1000000) (fun (i, _) => L.length - i) (0, 0) (Nat.le_of_ble_eq_true rfl) rfl (by refine ⟨rfl, rfl, rfl, rfl, rfl, rfl, 1, rfl, ?_, ?_⟩ <;> repeat' (first | exact trivial | exact rfl | exact ⟨_, rfl, WkV.refl _⟩ | exact ⟨_, rfl, WkV.own _ _ _⟩ | exact Nat.zero_le _ | exact bdl_no lL | exact Nat.le_of_ble_eq_true rfl | exact bdl_no (by assumption) | exact bdl_no (flat_no _) | exact bdl_no (ivs_no _) | exact bdl_no (svs_no _) | exact Nat.max_le.2 ⟨Nat.le_of_ble_eq_true rfl, bdl_no (ivs_no _)⟩ | exact Nat.max_le.2 ⟨Nat.le_of_ble_eq_true rfl, bdl_no (svs_no _)⟩ | apply And.intro)) ⟨Nat.zero_le _, rfl, Int.le_refl _, by simp⟩ ?_
 rintro ⟨i, n⟩ ⟨hi, he, hn1, hn2⟩ K hK
 obtain rfl : K = 1 := hK
 conv => whnf
 by_cases hi2 : i < L.length
 ·rw [drop_gL L hi2, smA] at he
  have hi1 : IntKind.i64.wrap (Int.ofNat i + 1) = Int.ofNat (i + 1) := wrapN (m := i + 1) (by omega)
  have hc := hb i hi2
  have hw : IntKind.i64.wrap (n + (gL L i).2.2) = n + (gL L i).2.2 := wrapI (by have := hc.1; omega) (by have := hc.2; omega)
  refine bool_true (ltN_t hi2) ?_
  conv => whnf
  refine bool_true (inR_t hi2) ?_
  conv => whnf
  refine plan_as (takP (tak_lk L hi2)) ?_
  conv => whnf
  by_cases h1 : p (gL L i) = true
  ·rw [if_pos h1] at he
   refine bool_true (((hp (gL L i)).symm.trans h1)) ?_
   conv => whnf
   exact ⟨(i + 1, n + (gL L i).2.2), ⟨hi2, he, by have := hc.1; omega, by have := hc.2; simp only [Int.natCast_add]; omega⟩, by show L.length - (i + 1) < L.length - i; omega, Nat.le_refl _, (by refine ⟨rfl, rfl, rfl, rfl, rfl, rfl, 1, rfl, ?_, ?_⟩ <;> repeat' (first | exact trivial | exact rfl | exact ⟨_, rfl, WkV.refl _⟩ | exact ⟨_, rfl, WkV.own _ _ _⟩ | exact Nat.zero_le _ | exact ⟨_, rfl, WkV.int hi1⟩ | exact ⟨_, rfl, WkV.int hw⟩ | exact bdl_no lL | exact Nat.le_of_ble_eq_true rfl | exact bdl_no (by assumption) | exact bdl_no (flat_no _) | exact bdl_no (ivs_no _) | exact bdl_no (svs_no _) | exact Nat.max_le.2 ⟨Nat.le_of_ble_eq_true rfl, bdl_no (ivs_no _)⟩ | exact Nat.max_le.2 ⟨Nat.le_of_ble_eq_true rfl, bdl_no (svs_no _)⟩ | apply And.intro))⟩
  ·rw [if_neg h1] at he
   refine bool_false (((hp (gL L i)).symm.trans (Bool.eq_false_iff.2 h1))) ?_
   conv => whnf
   exact ⟨(i + 1, n), ⟨hi2, he, hn1, by simp only [Int.natCast_add]; omega⟩, by show L.length - (i + 1) < L.length - i; omega, Nat.le_refl _, (by refine ⟨rfl, rfl, rfl, rfl, rfl, rfl, 1, rfl, ?_, ?_⟩ <;> repeat' (first | exact trivial | exact rfl | exact ⟨_, rfl, WkV.refl _⟩ | exact ⟨_, rfl, WkV.own _ _ _⟩ | exact Nat.zero_le _ | exact ⟨_, rfl, WkV.int hi1⟩ | exact bdl_no lL | exact Nat.le_of_ble_eq_true rfl | exact bdl_no (by assumption) | exact bdl_no (flat_no _) | exact bdl_no (ivs_no _) | exact bdl_no (svs_no _) | exact Nat.max_le.2 ⟨Nat.le_of_ble_eq_true rfl, bdl_no (ivs_no _)⟩ | exact Nat.max_le.2 ⟨Nat.le_of_ble_eq_true rfl, bdl_no (svs_no _)⟩ | apply And.intro))⟩
 ·refine bool_false (ltN_f hi2) ?_
  conv => whnf
  refine .inl ?_
  conv => whnf
  rw [List.drop_eq_nil_of_le (by omega), smA] at he
  rw [← he]
  exact ⟨_, rfl, Wk.refl _⟩
theorem came_nils (a c : Int) : Pure prog 119 [.agg [iv a, .nils], iv c] (iv 0) := by
 refine pure_sym hE rfl (by repeat' (first | exact trivial | assumption | exact flat_no _ | exact (fun _ h => nomatch h) | apply And.intro)) (by repeat' (first | exact trivial | assumption | exact flat_no _ | exact (fun _ h => nomatch h) | apply And.intro)) fun S q pc hS hq hC hE => ?_
 conv => whnf
 refine sym_unroll hE hS ?_
 conv => whnf
 exact ⟨_, rfl, Wk.refl _⟩
theorem went_nils (a c : Int) : Pure prog 120 [.agg [iv a, .nils], iv c] (iv 0) := by
 refine pure_sym hE rfl (by repeat' (first | exact trivial | assumption | exact flat_no _ | exact (fun _ h => nomatch h) | apply And.intro)) (by repeat' (first | exact trivial | assumption | exact flat_no _ | exact (fun _ h => nomatch h) | apply And.intro)) fun S q pc hS hq hC hE => ?_
 conv => whnf
 refine sym_unroll hE hS ?_
 conv => whnf
 exact ⟨_, rfl, Wk.refl _⟩
def blI (L : List LkI) (c : Int) : Int := smA (fun e => e.2.1 == c) 0 L - smA (fun e => e.1 == c) 0 L
end
end Go.Abs.Seat

/-! Books of accounts: all balances. -/
namespace Go.Abs.Seat
noncomputable section
open Go Go.Abs Go.Proofs.Tryz
set_option maxRecDepth 100000
set_option maxHeartbeats 40000000
attribute [local irreducible] pEq

theorem smA_bd (p : LkI → Bool) : ∀ (L : List LkI) (a : Int), (∀ j, j < L.length → 0 ≤ (gL L j).2.2 ∧ (gL L j).2.2 ≤ 1000000) → a ≤ smA p a L ∧ smA p a L ≤ a + (L.length : Int) * 1000000
 | [], a, _ => ⟨Int.le_refl _, by simp [smA]⟩
 |e :: r, a, h => by
  have h0 : 0 ≤ e.2.2 ∧ e.2.2 ≤ 1000000 := h 0 (Nat.succ_pos _)
  have hr : ∀ j, j < r.length → 0 ≤ (gL r j).2.2 ∧ (gL r j).2.2 ≤ 1000000 := fun j hj => h (j + 1) (Nat.succ_lt_succ hj)
  rw [smA]
  by_cases q : p e = true
  ·rw [if_pos q]
   have := smA_bd p r (a + e.2.2) hr
   simp only [List.length_cons, Int.natCast_add]
   omega
  ·rw [if_neg q]
   have := smA_bd p r a hr
   simp only [List.length_cons, Int.natCast_add]
   omega
theorem bal_w {L : List LkI} (hl : L.length ≤ 8) (hb : ∀ j, j < L.length → 0 ≤ (gL L j).2.2 ∧ (gL L j).2.2 ≤ 1000000) (c : Int) : IntKind.i64.wrap (smA (fun e => e.2.1 == c) 0 L - smA (fun e => e.1 == c) 0 L) = blI L c := by
 have h1 := smA_bd (fun e => e.2.1 == c) L 0 hb
 have h2 := smA_bd (fun e => e.1 == c) L 0 hb
 exact wrapI (by omega) (by omega)
theorem bal2 {L : List LkI} (hl : L.length ≤ 8) (hb : ∀ j, j < L.length → 0 ≤ (gL L j).2.2 ∧ (gL L j).2.2 ≤ 1000000) : Pure prog 63 [.agg [iv 2, lkA L]] (nl [blI L 0, blI L 1]) := by
 have lL := lks_no L
 have hcm := came_pure hl hb
 have hwt := went_pure hl hb
 have hw := bal_w hl hb
 refine pure_sym hE rfl (by repeat' (first | exact trivial | assumption | exact flat_no _ | exact (fun _ h => nomatch h) | apply And.intro)) (by repeat' (first | exact trivial | assumption | exact flat_no _ | exact (fun _ h => nomatch h) | apply And.intro)) fun S q pc hS hq hC hE => ?_
 conv => whnf
 refine sym_unroll hE hS ?_
 conv => whnf
 refine sym_unroll hE hS ?_
 conv => whnf
 refine sym_pure hC (hcm 2 0) ?_
 conv => whnf
 refine sym_unroll hE hS ?_
 conv => whnf
 refine sym_pure hC (hwt 2 0) ?_
 conv => whnf
 refine sym_unroll hE hS ?_
 conv => whnf
 refine sym_unroll hE hS ?_
 conv => whnf
 refine sym_unroll hE hS ?_
 conv => whnf
 refine sym_pure hC (hcm 2 1) ?_
 conv => whnf
 refine sym_unroll hE hS ?_
 conv => whnf
 refine sym_pure hC (hwt 2 1) ?_
 conv => whnf
 refine sym_unroll hE hS ?_
 conv => whnf
 refine sym_unroll hE hS ?_
 conv => whnf
 refine ⟨_, rfl, ?_⟩
 show Wk (.lst [iv (IntKind.i64.wrap (smA (fun e => e.2.1 == 0) 0 L - smA (fun e => e.1 == 0) 0 L)), iv (IntKind.i64.wrap (smA (fun e => e.2.1 == 1) 0 L - smA (fun e => e.1 == 1) 0 L))] 2 (.ch _)) _
 rw [hw 0, hw 1]
 exact wk_own rfl
theorem bal3 {L : List LkI} (hl : L.length ≤ 8) (hb : ∀ j, j < L.length → 0 ≤ (gL L j).2.2 ∧ (gL L j).2.2 ≤ 1000000) : Pure prog 63 [.agg [iv 3, lkA L]] (nl [blI L 0, blI L 1, blI L 2]) := by
 have lL := lks_no L
 have hcm := came_pure hl hb
 have hwt := went_pure hl hb
 have hw := bal_w hl hb
 refine pure_sym hE rfl (by repeat' (first | exact trivial | assumption | exact flat_no _ | exact (fun _ h => nomatch h) | apply And.intro)) (by repeat' (first | exact trivial | assumption | exact flat_no _ | exact (fun _ h => nomatch h) | apply And.intro)) fun S q pc hS hq hC hE => ?_
 conv => whnf
 refine sym_unroll hE hS ?_
 conv => whnf
 refine sym_unroll hE hS ?_
 conv => whnf
 refine sym_pure hC (hcm 3 0) ?_
 conv => whnf
 refine sym_unroll hE hS ?_
 conv => whnf
 refine sym_pure hC (hwt 3 0) ?_
 conv => whnf
 refine sym_unroll hE hS ?_
 conv => whnf
 refine sym_unroll hE hS ?_
 conv => whnf
 refine sym_unroll hE hS ?_
 conv => whnf
 refine sym_pure hC (hcm 3 1) ?_
 conv => whnf
 refine sym_unroll hE hS ?_
 conv => whnf
 refine sym_pure hC (hwt 3 1) ?_
 conv => whnf
 refine sym_unroll hE hS ?_
 conv => whnf
 refine sym_unroll hE hS ?_
 conv => whnf
 refine sym_unroll hE hS ?_
 conv => whnf
 refine sym_pure hC (hcm 3 2) ?_
 conv => whnf
 refine sym_unroll hE hS ?_
 conv => whnf
 refine sym_pure hC (hwt 3 2) ?_
 conv => whnf
 refine sym_unroll hE hS ?_
 conv => whnf
 refine sym_unroll hE hS ?_
 conv => whnf
 refine ⟨_, rfl, ?_⟩
 show Wk (.lst [iv (IntKind.i64.wrap (smA (fun e => e.2.1 == 0) 0 L - smA (fun e => e.1 == 0) 0 L)), iv (IntKind.i64.wrap (smA (fun e => e.2.1 == 1) 0 L - smA (fun e => e.1 == 1) 0 L)), iv (IntKind.i64.wrap (smA (fun e => e.2.1 == 2) 0 L - smA (fun e => e.1 == 2) 0 L))] 3 (.ch _)) _
 rw [hw 0, hw 1, hw 2]
 exact wk_own rfl
theorem bal4 {L : List LkI} (hl : L.length ≤ 8) (hb : ∀ j, j < L.length → 0 ≤ (gL L j).2.2 ∧ (gL L j).2.2 ≤ 1000000) : Pure prog 63 [.agg [iv 4, lkA L]] (nl [blI L 0, blI L 1, blI L 2, blI L 3]) := by
 have lL := lks_no L
 have hcm := came_pure hl hb
 have hwt := went_pure hl hb
 have hw := bal_w hl hb
 refine pure_sym hE rfl (by repeat' (first | exact trivial | assumption | exact flat_no _ | exact (fun _ h => nomatch h) | apply And.intro)) (by repeat' (first | exact trivial | assumption | exact flat_no _ | exact (fun _ h => nomatch h) | apply And.intro)) fun S q pc hS hq hC hE => ?_
 conv => whnf
 refine sym_unroll hE hS ?_
 conv => whnf
 refine sym_unroll hE hS ?_
 conv => whnf
 refine sym_pure hC (hcm 4 0) ?_
 conv => whnf
 refine sym_unroll hE hS ?_
 conv => whnf
 refine sym_pure hC (hwt 4 0) ?_
 conv => whnf
 refine sym_unroll hE hS ?_
 conv => whnf
 refine sym_unroll hE hS ?_
 conv => whnf
 refine sym_unroll hE hS ?_
 conv => whnf
 refine sym_pure hC (hcm 4 1) ?_
 conv => whnf
 refine sym_unroll hE hS ?_
 conv => whnf
 refine sym_pure hC (hwt 4 1) ?_
 conv => whnf
 refine sym_unroll hE hS ?_
 conv => whnf
 refine sym_unroll hE hS ?_
 conv => whnf
 refine sym_unroll hE hS ?_
 conv => whnf
 refine sym_pure hC (hcm 4 2) ?_
 conv => whnf
 refine sym_unroll hE hS ?_
 conv => whnf
 refine sym_pure hC (hwt 4 2) ?_
 conv => whnf
 refine sym_unroll hE hS ?_
 conv => whnf
 refine sym_unroll hE hS ?_
 conv => whnf
 refine sym_unroll hE hS ?_
 conv => whnf
 refine sym_pure hC (hcm 4 3) ?_
 conv => whnf
 refine sym_unroll hE hS ?_
 conv => whnf
 refine sym_pure hC (hwt 4 3) ?_
 conv => whnf
 refine sym_unroll hE hS ?_
 conv => whnf
 refine sym_unroll hE hS ?_
 conv => whnf
 refine ⟨_, rfl, ?_⟩
 show Wk (.lst [iv (IntKind.i64.wrap (smA (fun e => e.2.1 == 0) 0 L - smA (fun e => e.1 == 0) 0 L)), iv (IntKind.i64.wrap (smA (fun e => e.2.1 == 1) 0 L - smA (fun e => e.1 == 1) 0 L)), iv (IntKind.i64.wrap (smA (fun e => e.2.1 == 2) 0 L - smA (fun e => e.1 == 2) 0 L)), iv (IntKind.i64.wrap (smA (fun e => e.2.1 == 3) 0 L - smA (fun e => e.1 == 3) 0 L))] 4 (.ch _)) _
 rw [hw 0, hw 1, hw 2, hw 3]
 exact wk_own rfl
theorem bal5 {L : List LkI} (hl : L.length ≤ 8) (hb : ∀ j, j < L.length → 0 ≤ (gL L j).2.2 ∧ (gL L j).2.2 ≤ 1000000) : Pure prog 63 [.agg [iv 5, lkA L]] (nl [blI L 0, blI L 1, blI L 2, blI L 3, blI L 4]) := by
 have lL := lks_no L
 have hcm := came_pure hl hb
 have hwt := went_pure hl hb
 have hw := bal_w hl hb
 refine pure_sym hE rfl (by repeat' (first | exact trivial | assumption | exact flat_no _ | exact (fun _ h => nomatch h) | apply And.intro)) (by repeat' (first | exact trivial | assumption | exact flat_no _ | exact (fun _ h => nomatch h) | apply And.intro)) fun S q pc hS hq hC hE => ?_
 conv => whnf
 refine sym_unroll hE hS ?_
 conv => whnf
 refine sym_unroll hE hS ?_
 conv => whnf
 refine sym_pure hC (hcm 5 0) ?_
 conv => whnf
 refine sym_unroll hE hS ?_
 conv => whnf
 refine sym_pure hC (hwt 5 0) ?_
 conv => whnf
 refine sym_unroll hE hS ?_
 conv => whnf
 refine sym_unroll hE hS ?_
 conv => whnf
 refine sym_unroll hE hS ?_
 conv => whnf
 refine sym_pure hC (hcm 5 1) ?_
 conv => whnf
 refine sym_unroll hE hS ?_
 conv => whnf
 refine sym_pure hC (hwt 5 1) ?_
 conv => whnf
 refine sym_unroll hE hS ?_
 conv => whnf
 refine sym_unroll hE hS ?_
 conv => whnf
 refine sym_unroll hE hS ?_
 conv => whnf
 refine sym_pure hC (hcm 5 2) ?_
 conv => whnf
 refine sym_unroll hE hS ?_
 conv => whnf
 refine sym_pure hC (hwt 5 2) ?_
 conv => whnf
 refine sym_unroll hE hS ?_
 conv => whnf
 refine sym_unroll hE hS ?_
 conv => whnf
 refine sym_unroll hE hS ?_
 conv => whnf
 refine sym_pure hC (hcm 5 3) ?_
 conv => whnf
 refine sym_unroll hE hS ?_
 conv => whnf
 refine sym_pure hC (hwt 5 3) ?_
 conv => whnf
 refine sym_unroll hE hS ?_
 conv => whnf
 refine sym_unroll hE hS ?_
 conv => whnf
 refine sym_unroll hE hS ?_
 conv => whnf
 refine sym_pure hC (hcm 5 4) ?_
 conv => whnf
 refine sym_unroll hE hS ?_
 conv => whnf
 refine sym_pure hC (hwt 5 4) ?_
 conv => whnf
 refine sym_unroll hE hS ?_
 conv => whnf
 refine sym_unroll hE hS ?_
 conv => whnf
 refine ⟨_, rfl, ?_⟩
 show Wk (.lst [iv (IntKind.i64.wrap (smA (fun e => e.2.1 == 0) 0 L - smA (fun e => e.1 == 0) 0 L)), iv (IntKind.i64.wrap (smA (fun e => e.2.1 == 1) 0 L - smA (fun e => e.1 == 1) 0 L)), iv (IntKind.i64.wrap (smA (fun e => e.2.1 == 2) 0 L - smA (fun e => e.1 == 2) 0 L)), iv (IntKind.i64.wrap (smA (fun e => e.2.1 == 3) 0 L - smA (fun e => e.1 == 3) 0 L)), iv (IntKind.i64.wrap (smA (fun e => e.2.1 == 4) 0 L - smA (fun e => e.1 == 4) 0 L))] 5 (.ch _)) _
 rw [hw 0, hw 1, hw 2, hw 3, hw 4]
 exact wk_own rfl
end
end Go.Abs.Seat

/-! Books of accounts: Balances. -/
namespace Go.Abs.Seat
noncomputable section
open Go Go.Abs Go.Proofs.Tryz
set_option maxRecDepth 100000
set_option maxHeartbeats 40000000
attribute [local irreducible] pEq

theorem bal2n : Pure prog 63 [.agg [iv 2, .nils]] (nl [0, 0]) := by
 have hcm := came_nils
 have hwt := went_nils
 refine pure_sym hE rfl (by repeat' (first | exact trivial | assumption | exact flat_no _ | exact (fun _ h => nomatch h) | apply And.intro)) (by repeat' (first | exact trivial | assumption | exact flat_no _ | exact (fun _ h => nomatch h) | apply And.intro)) fun S q pc hS hq hC hE => ?_
 conv => whnf
 refine sym_unroll hE hS ?_
 conv => whnf
 refine sym_unroll hE hS ?_
 conv => whnf
 refine sym_pure hC (hcm 2 0) ?_
 conv => whnf
 refine sym_unroll hE hS ?_
 conv => whnf
 refine sym_pure hC (hwt 2 0) ?_
 conv => whnf
 refine sym_unroll hE hS ?_
 conv => whnf
 refine sym_unroll hE hS ?_
 conv => whnf
 refine sym_unroll hE hS ?_
 conv => whnf
 refine sym_pure hC (hcm 2 1) ?_
 conv => whnf
 refine sym_unroll hE hS ?_
 conv => whnf
 refine sym_pure hC (hwt 2 1) ?_
 conv => whnf
 refine sym_unroll hE hS ?_
 conv => whnf
 refine sym_unroll hE hS ?_
 conv => whnf
 refine ⟨_, rfl, ?_⟩
 show Wk (.lst [iv 0, iv 0] 2 (.ch _)) _
 exact wk_own rfl
theorem bal3n : Pure prog 63 [.agg [iv 3, .nils]] (nl [0, 0, 0]) := by
 have hcm := came_nils
 have hwt := went_nils
 refine pure_sym hE rfl (by repeat' (first | exact trivial | assumption | exact flat_no _ | exact (fun _ h => nomatch h) | apply And.intro)) (by repeat' (first | exact trivial | assumption | exact flat_no _ | exact (fun _ h => nomatch h) | apply And.intro)) fun S q pc hS hq hC hE => ?_
 conv => whnf
 refine sym_unroll hE hS ?_
 conv => whnf
 refine sym_unroll hE hS ?_
 conv => whnf
 refine sym_pure hC (hcm 3 0) ?_
 conv => whnf
 refine sym_unroll hE hS ?_
 conv => whnf
 refine sym_pure hC (hwt 3 0) ?_
 conv => whnf
 refine sym_unroll hE hS ?_
 conv => whnf
 refine sym_unroll hE hS ?_
 conv => whnf
 refine sym_unroll hE hS ?_
 conv => whnf
 refine sym_pure hC (hcm 3 1) ?_
 conv => whnf
 refine sym_unroll hE hS ?_
 conv => whnf
 refine sym_pure hC (hwt 3 1) ?_
 conv => whnf
 refine sym_unroll hE hS ?_
 conv => whnf
 refine sym_unroll hE hS ?_
 conv => whnf
 refine sym_unroll hE hS ?_
 conv => whnf
 refine sym_pure hC (hcm 3 2) ?_
 conv => whnf
 refine sym_unroll hE hS ?_
 conv => whnf
 refine sym_pure hC (hwt 3 2) ?_
 conv => whnf
 refine sym_unroll hE hS ?_
 conv => whnf
 refine sym_unroll hE hS ?_
 conv => whnf
 refine ⟨_, rfl, ?_⟩
 show Wk (.lst [iv 0, iv 0, iv 0] 3 (.ch _)) _
 exact wk_own rfl
theorem bal4n : Pure prog 63 [.agg [iv 4, .nils]] (nl [0, 0, 0, 0]) := by
 have hcm := came_nils
 have hwt := went_nils
 refine pure_sym hE rfl (by repeat' (first | exact trivial | assumption | exact flat_no _ | exact (fun _ h => nomatch h) | apply And.intro)) (by repeat' (first | exact trivial | assumption | exact flat_no _ | exact (fun _ h => nomatch h) | apply And.intro)) fun S q pc hS hq hC hE => ?_
 conv => whnf
 refine sym_unroll hE hS ?_
 conv => whnf
 refine sym_unroll hE hS ?_
 conv => whnf
 refine sym_pure hC (hcm 4 0) ?_
 conv => whnf
 refine sym_unroll hE hS ?_
 conv => whnf
 refine sym_pure hC (hwt 4 0) ?_
 conv => whnf
 refine sym_unroll hE hS ?_
 conv => whnf
 refine sym_unroll hE hS ?_
 conv => whnf
 refine sym_unroll hE hS ?_
 conv => whnf
 refine sym_pure hC (hcm 4 1) ?_
 conv => whnf
 refine sym_unroll hE hS ?_
 conv => whnf
 refine sym_pure hC (hwt 4 1) ?_
 conv => whnf
 refine sym_unroll hE hS ?_
 conv => whnf
 refine sym_unroll hE hS ?_
 conv => whnf
 refine sym_unroll hE hS ?_
 conv => whnf
 refine sym_pure hC (hcm 4 2) ?_
 conv => whnf
 refine sym_unroll hE hS ?_
 conv => whnf
 refine sym_pure hC (hwt 4 2) ?_
 conv => whnf
 refine sym_unroll hE hS ?_
 conv => whnf
 refine sym_unroll hE hS ?_
 conv => whnf
 refine sym_unroll hE hS ?_
 conv => whnf
 refine sym_pure hC (hcm 4 3) ?_
 conv => whnf
 refine sym_unroll hE hS ?_
 conv => whnf
 refine sym_pure hC (hwt 4 3) ?_
 conv => whnf
 refine sym_unroll hE hS ?_
 conv => whnf
 refine sym_unroll hE hS ?_
 conv => whnf
 refine ⟨_, rfl, ?_⟩
 show Wk (.lst [iv 0, iv 0, iv 0, iv 0] 4 (.ch _)) _
 exact wk_own rfl
theorem bal5n : Pure prog 63 [.agg [iv 5, .nils]] (nl [0, 0, 0, 0, 0]) := by
 have hcm := came_nils
 have hwt := went_nils
 refine pure_sym hE rfl (by repeat' (first | exact trivial | assumption | exact flat_no _ | exact (fun _ h => nomatch h) | apply And.intro)) (by repeat' (first | exact trivial | assumption | exact flat_no _ | exact (fun _ h => nomatch h) | apply And.intro)) fun S q pc hS hq hC hE => ?_
 conv => whnf
 refine sym_unroll hE hS ?_
 conv => whnf
 refine sym_unroll hE hS ?_
 conv => whnf
 refine sym_pure hC (hcm 5 0) ?_
 conv => whnf
 refine sym_unroll hE hS ?_
 conv => whnf
 refine sym_pure hC (hwt 5 0) ?_
 conv => whnf
 refine sym_unroll hE hS ?_
 conv => whnf
 refine sym_unroll hE hS ?_
 conv => whnf
 refine sym_unroll hE hS ?_
 conv => whnf
 refine sym_pure hC (hcm 5 1) ?_
 conv => whnf
 refine sym_unroll hE hS ?_
 conv => whnf
 refine sym_pure hC (hwt 5 1) ?_
 conv => whnf
 refine sym_unroll hE hS ?_
 conv => whnf
 refine sym_unroll hE hS ?_
 conv => whnf
 refine sym_unroll hE hS ?_
 conv => whnf
 refine sym_pure hC (hcm 5 2) ?_
 conv => whnf
 refine sym_unroll hE hS ?_
 conv => whnf
 refine sym_pure hC (hwt 5 2) ?_
 conv => whnf
 refine sym_unroll hE hS ?_
 conv => whnf
 refine sym_unroll hE hS ?_
 conv => whnf
 refine sym_unroll hE hS ?_
 conv => whnf
 refine sym_pure hC (hcm 5 3) ?_
 conv => whnf
 refine sym_unroll hE hS ?_
 conv => whnf
 refine sym_pure hC (hwt 5 3) ?_
 conv => whnf
 refine sym_unroll hE hS ?_
 conv => whnf
 refine sym_unroll hE hS ?_
 conv => whnf
 refine sym_unroll hE hS ?_
 conv => whnf
 refine sym_pure hC (hcm 5 4) ?_
 conv => whnf
 refine sym_unroll hE hS ?_
 conv => whnf
 refine sym_pure hC (hwt 5 4) ?_
 conv => whnf
 refine sym_unroll hE hS ?_
 conv => whnf
 refine sym_unroll hE hS ?_
 conv => whnf
 refine ⟨_, rfl, ?_⟩
 show Wk (.lst [iv 0, iv 0, iv 0, iv 0, iv 0] 5 (.ch _)) _
 exact wk_own rfl
def blL (L : List LkI) (k : Nat) : List Int := (List.range k).map fun j => blI L (Int.ofNat j)
theorem balances_pure {x : AV} {L : List LkI} (hx : LL x L) {a : Int} (h : bkOk a L) : Pure prog 63 [.agg [iv a, x]] (nl (blL L a.toNat)) := by
 have hb : ∀ j, j < L.length → 0 ≤ (gL L j).2.2 ∧ (gL L j).2.2 ≤ 1000000 := fun j hj => (h.2.2 j hj).2.2.2
 have hc : a = 2 ∨ a = 3 ∨ a = 4 ∨ a = 5 := by have := h.1; omega
 rcases hc with rfl | rfl | rfl | rfl
 ·rcases hx with ⟨rfl, rfl⟩ | rfl
  ·exact bal2n
  ·exact bal2 h.2.1 hb
 ·rcases hx with ⟨rfl, rfl⟩ | rfl
  ·exact bal3n
  ·exact bal3 h.2.1 hb
 ·rcases hx with ⟨rfl, rfl⟩ | rfl
  ·exact bal4n
  ·exact bal4 h.2.1 hb
 ·rcases hx with ⟨rfl, rfl⟩ | rfl
  ·exact bal5n
  ·exact bal5 h.2.1 hb
theorem sBalances_yes {x : AV} {L : List LkI} (hx : LL x L) {a : Int} (h : bkOk a L) : Pure prog 14 [iv a, x] (.tup [nl (blL L a.toNat), iv 0]) := by
 have p1 := isBook_pure hx a
 rw [decide_eq_true h] at p1
 have p2 := balances_pure hx h
 have lx := hx.no
 have lb := ivs_no (blL L a.toNat)
 generalize blL L a.toNat = l at *
 rcases hx with ⟨rfl, rfl⟩ | rfl
 all_goals
  refine pure_sym hE rfl (by repeat' (first | exact trivial | assumption | exact flat_no _ | exact (fun _ h => nomatch h) | apply And.intro)) (by repeat' (first | exact trivial | assumption | exact flat_no _ | exact (fun _ h => nomatch h) | apply And.intro)) fun S q pc hS hq hC hE => ?_
  conv => whnf
  refine sym_pure hC (p1) ?_
  conv => whnf
  refine sym_pure hC (p2) ?_
  conv => whnf
  exact ⟨_, rfl, Wk.refl _⟩
end
end Go.Abs.Seat

/-! Books of accounts, plain: what must be paid with some entries. -/
namespace Go.Abs.Seat
noncomputable section
open Go Go.Abs Go.Proofs.Tryz
set_option maxRecDepth 100000
set_option maxHeartbeats 4000000

def fl (a : Int) (e : LkI) : Int := (if e.2.1 = a then e.2.2 else 0) - (if e.1 = a then e.2.2 else 0)
def sg : List LkI → Int → Int
 | [], _ => 0
 |e :: r, a => fl a e + sg r a
theorem smA_add (p : LkI → Bool) : ∀ (L : List LkI) (a : Int), smA p a L = a + smA p 0 L
 | [], a => by simp [smA]
 |e :: r, a => by
  rw [smA, smA, smA_add p r, smA_add p r (if p e = true then 0 + e.2.2 else 0)]
  split <;> omega
theorem blI_sg : ∀ (L : List LkI) (a : Int), blI L a = sg L a
 | [], _ => rfl
 |e :: r, a => by
  rw [sg, ← blI_sg r a]
  unfold blI fl
  rw [smA, smA, smA_add, smA_add (fun e => e.1 == a)]
  simp only [beq_iff_eq]
  split <;> split <;> omega
theorem gL_zero (e : LkI) (r : List LkI) : gL (e :: r) 0 = e := rfl
theorem gL_succ (e : LkI) (r : List LkI) (i : Nat) : gL (e :: r) (i + 1) = gL r i := rfl
theorem sg_app : ∀ (L M : List LkI) (a : Int), sg (L ++ M) a = sg L a + sg M a
 | [], M, a => by rw [List.nil_append, sg, Int.zero_add]
 |e :: r, M, a => by rw [List.cons_append, sg, sg, sg_app r M a]; omega
theorem sg_eq : ∀ {X Y : List LkI} {a : Int}, X.length = Y.length → (∀ j, j < X.length → fl a (gL X j) = fl a (gL Y j)) → sg X a = sg Y a
 | [], [], _, _, _ => rfl
 | [], _ :: _, _, h, _ => nomatch h
 | _ :: _, [], _, h, _ => nomatch h
 |x :: X, y :: Y, a, h, k => by
  have h0 := k 0 (Nat.succ_pos _)
  rw [gL_zero, gL_zero] at h0
  have := sg_eq (X := X) (Y := Y) (a := a) (Nat.succ.inj h) fun j hj => k (j + 1) (Nat.succ_lt_succ hj)
  rw [sg, sg, h0, this]
theorem sg_one : ∀ {X Y : List LkI} {a : Int} {i : Nat}, X.length = Y.length → i < X.length → (∀ j, j < X.length → j ≠ i → fl a (gL X j) = fl a (gL Y j)) → sg X a - sg Y a = fl a (gL X i) - fl a (gL Y i)
 | [], _, _, _, _, h, _ => absurd h (Nat.not_lt_zero _)
 | _ :: _, [], _, _, h, _, _ => nomatch h
 |x :: X, y :: Y, a, 0, h, _, k => by
  have := sg_eq (X := X) (Y := Y) (a := a) (Nat.succ.inj h) fun j hj => k (j + 1) (Nat.succ_lt_succ hj) (Nat.succ_ne_zero j)
  rw [sg, sg, gL_zero, gL_zero, this]; omega
 |x :: X, y :: Y, a, i + 1, h, hi, k => by
  have h0 := k 0 (Nat.succ_pos _) (Nat.succ_ne_zero i).symm
  rw [gL_zero, gL_zero] at h0
  have := sg_one (X := X) (Y := Y) (a := a) (i := i) (Nat.succ.inj h) (Nat.lt_of_succ_lt_succ hi) fun j hj hn => k (j + 1) (Nat.succ_lt_succ hj) fun e => hn (Nat.succ.inj e)
  rw [sg, sg, gL_succ, gL_succ, h0]; omega
theorem sg_le : ∀ {X Y : List LkI} {a : Int}, X.length = Y.length → (∀ j, j < X.length → fl a (gL X j) ≤ fl a (gL Y j)) → sg X a ≤ sg Y a
 | [], [], _, _, _ => Int.le_refl _
 | [], _ :: _, _, h, _ => nomatch h
 | _ :: _, [], _, h, _ => nomatch h
 |x :: X, y :: Y, a, h, k => by
  have h0 := k 0 (Nat.succ_pos _)
  rw [gL_zero, gL_zero] at h0
  have := sg_le (X := X) (Y := Y) (a := a) (Nat.succ.inj h) fun j hj => k (j + 1) (Nat.succ_lt_succ hj)
  rw [sg, sg]; omega
theorem sg_le1 : ∀ {X Y : List LkI} {a : Int} {i : Nat}, X.length = Y.length → i < X.length → (∀ j, j < X.length → fl a (gL X j) ≤ fl a (gL Y j)) → fl a (gL Y i) - fl a (gL X i) ≤ sg Y a - sg X a
 | [], _, _, _, _, h, _ => absurd h (Nat.not_lt_zero _)
 | _ :: _, [], _, _, h, _, _ => nomatch h
 |x :: X, y :: Y, a, 0, h, _, k => by
  have := sg_le (X := X) (Y := Y) (a := a) (Nat.succ.inj h) fun j hj => k (j + 1) (Nat.succ_lt_succ hj)
  rw [sg, sg, gL_zero, gL_zero]; omega
 |x :: X, y :: Y, a, i + 1, h, hi, k => by
  have h0 := k 0 (Nat.succ_pos _)
  rw [gL_zero, gL_zero] at h0
  have := sg_le1 (X := X) (Y := Y) (a := a) (i := i) (Nat.succ.inj h) (Nat.lt_of_succ_lt_succ hi) fun j hj => k (j + 1) (Nat.succ_lt_succ hj)
  rw [sg, sg, gL_succ, gL_succ]; omega
theorem gL_set (X : List LkI) (y : LkI) {i : Nat} (hi : i < X.length) (j : Nat) : gL (X.set i y) j = if j = i then y else gL X j := by
 by_cases e : j = i
 ·subst e
  rw [if_pos rfl]
  simp [gL, List.getD, hi]
 ·rw [if_neg e]
  simp [gL, List.getD, Ne.symm e]
theorem sg_set {X : List LkI} {y : LkI} {i : Nat} (hi : i < X.length) (a : Int) : sg (X.set i y) a = sg X a - fl a (gL X i) + fl a y := by
 have := sg_one (X := X.set i y) (Y := X) (a := a) (i := i) (List.length_set ..) (by rw [List.length_set]; exact hi) fun j _ hn => by rw [gL_set X y hi, if_neg hn]
 rw [gL_set X y hi, if_pos rfl] at this
 omega
theorem gL_ext : ∀ {X Y : List LkI}, X.length = Y.length → (∀ j, j < X.length → gL X j = gL Y j) → X = Y
 | [], [], _, _ => rfl
 | [], _ :: _, h, _ => nomatch h
 | _ :: _, [], h, _ => nomatch h
 |x :: X, y :: Y, h, k => by
  have h0 : x = y := k 0 (Nat.succ_pos _)
  rw [h0, gL_ext (X := X) (Y := Y) (Nat.succ.inj h) fun j hj => k (j + 1) (Nat.succ_lt_succ hj)]

def tch (e : LkI) (a : Int) : Prop := e.1 = a ∨ e.2.1 = a
instance (e : LkI) (a : Int) : Decidable (tch e a) := inferInstanceAs (Decidable (_ ∨ _))
theorem fl_no {e : LkI} {a : Int} (h : ¬ tch e a) : fl a e = 0 := by
 unfold fl
 rw [if_neg fun z => h (.inr z), if_neg fun z => h (.inl z)]; rfl
theorem fl_z {e : LkI} (a : Int) (h : e.2.2 = 0) : fl a e = 0 := by
 unfold fl
 rw [h]; split <;> split <;> rfl
def Leaf (E : List LkI) (q : Nat → Prop) (a : Int) (i : Nat) : Prop := i < E.length ∧ q i ∧ tch (gL E i) a ∧ ∀ j, j < E.length → q j → tch (gL E j) a → j = i
def FR (E : List LkI) : Prop := ∀ q : Nat → Prop, (∃ i, i < E.length ∧ q i) → ∃ a i, Leaf E q a i
def SameFT (E X : List LkI) : Prop := X.length = E.length ∧ ∀ i, i < E.length → (gL X i).1 = (gL E i).1 ∧ (gL X i).2.1 = (gL E i).2.1
def SolL (b : List Int) (E X : List LkI) : Prop := SameFT E X ∧ (∀ i, i < E.length → 0 < (gL X i).2.2) ∧ ∀ a : Nat, a < b.length → b.getD a 0 + sg X (Int.ofNat a) = 0
theorem fl_ft {x y : LkI} {a : Int} (h1 : x.1 = y.1) (h2 : x.2.1 = y.2.1) (h3 : tch y a → x.2.2 = y.2.2) : fl a x = fl a y := by
 by_cases t : tch y a
 ·unfold fl
  rw [h1, h2, h3 t]
 ·rw [fl_no t, fl_no fun z => t (by rcases z with z | z; exact .inl (h1 ▸ z); exact .inr (h2 ▸ z))]
theorem fl_t {e : LkI} {a : Int} (t : tch e a) (hn : e.1 ≠ e.2.1) : fl a e = if e.1 = a then - e.2.2 else e.2.2 := by
 unfold fl
 rcases t with t | t
 ·rw [if_pos t, if_pos t, if_neg fun z => hn (t.trans z.symm)]; omega
 ·rw [if_pos t, if_neg fun z => hn (z.trans t.symm), if_neg fun z => hn (z.trans t.symm)]; omega
theorem FR.uniq {b : List Int} {E X Y : List LkI} (hf : FR E) (hr : ∀ i, i < E.length → (gL E i).1 ≠ (gL E i).2.1 ∧ ∀ a, tch (gL E i) a → 0 ≤ a ∧ a < (b.length : Int)) (hX : SolL b E X) (hY : SolL b E Y) : X = Y := by
 refine Classical.byContradiction fun hne => ?_
 have hd : ∃ i, i < E.length ∧ (gL X i).2.2 ≠ (gL Y i).2.2 := Classical.byContradiction fun hc => hne <| gL_ext (hX.1.1.trans hY.1.1.symm) fun j hj => by
  rw [hX.1.1] at hj
  have h1 := hX.1.2 j hj
  have h2 := hY.1.2 j hj
  refine Prod.ext (h1.1.trans h2.1.symm) (Prod.ext (h1.2.trans h2.2.symm) ?_)
  exact Classical.byContradiction fun h => hc ⟨j, hj, h⟩
 obtain ⟨a, i, hi, hq, ht, hu⟩ := hf _ hd
 have ha := (hr i hi).2 a ht
 have hla : a.toNat < b.length := by omega
 have sX := hX.2.2 a.toNat hla
 have sY := hY.2.2 a.toNat hla
 rw [show Int.ofNat a.toNat = a from Int.toNat_of_nonneg ha.1] at sX sY
 have h1 := hX.1.2 i hi
 have h2 := hY.1.2 i hi
 have hs := sg_one (X := X) (Y := Y) (a := a) (i := i) (hX.1.1.trans hY.1.1.symm) (by rw [hX.1.1]; exact hi) fun j hj hn => by
  rw [hX.1.1] at hj
  have k1 := hX.1.2 j hj
  have k2 := hY.1.2 j hj
  refine fl_ft (k1.1.trans k2.1.symm) (k1.2.trans k2.2.symm) fun t => Classical.byContradiction fun hc => hn (hu j hj hc ?_)
  unfold tch at t ⊢
  rw [k2.1, k2.2] at t
  exact t
 have tX : tch (gL X i) a := by unfold tch at ht ⊢; rw [h1.1, h1.2]; exact ht
 have tY : tch (gL Y i) a := by unfold tch at ht ⊢; rw [h2.1, h2.2]; exact ht
 have hn := (hr i hi).1
 rw [fl_t tX (by rw [h1.1, h1.2]; exact hn), fl_t tY (by rw [h2.1, h2.2]; exact hn), h1.1, h2.1] at hs
 split at hs <;> omega

structure Inv (b : List Int) (E X : List LkI) (lf : List Int) : Prop where
 ft : SameFT E X
 len : lf.length = b.length
 nn : ∀ i, i < E.length → 0 ≤ (gL X i).2.2
 lv : ∀ a : Nat, a < b.length → lf.getD a 0 = b.getD a 0 + sg X (Int.ofNat a)
 ord : ∀ q : Nat → Prop, (∃ i, i < E.length ∧ q i ∧ 0 < (gL X i).2.2) → ∃ a i, Leaf E q a i
 sol : ∀ Y, SolL b E Y → ∀ i, i < E.length → 0 < (gL X i).2.2 → (gL X i).2.2 = (gL Y i).2.2
def opn (X : List LkI) (i : Nat) : Prop := (gL X i).2.2 = 0
theorem Inv.init {b : List Int} {E : List LkI} (hz : ∀ i, i < E.length → (gL E i).2.2 = 0) : Inv b E E b where
 ft := ⟨rfl, fun _ _ => ⟨rfl, rfl⟩⟩
 len := rfl
 nn i hi := by rw [hz i hi]; exact Int.le_refl _
 lv a _ := by
  have := sg_eq (X := E) (Y := E.map fun e => (e.1, e.2.1, 0)) (a := Int.ofNat a) (List.length_map _).symm fun j hj => by
   rw [fl_z _ (hz j hj), fl_z]
   simp [gL, List.getD, hj]
  have h0 : ∀ L : List LkI, sg (L.map fun e => (e.1, e.2.1, 0)) (Int.ofNat a) = 0 := fun L => by
   induction L with
   |nil => rfl
   |cons e r ih => rw [List.map_cons, sg, ih, fl_z _ rfl]; rfl
  rw [this, h0]; omega
 ord q := fun ⟨i, hi, _, h⟩ => by rw [hz i hi] at h; exact absurd h (Int.lt_irrefl _)
 sol Y _ i hi h := by rw [hz i hi] at h; exact absurd h (Int.lt_irrefl _)
variable {b : List Int} {E X : List LkI} {lf : List Int}
theorem Inv.val (h : Inv b E X lf) {Y : List LkI} (hY : SolL b E Y) {a i : Nat} (ha : a < b.length) (hl : Leaf E (opn X) (Int.ofNat a) i) (hn : (gL E i).1 ≠ (gL E i).2.1) :
  lf.getD a 0 = if (gL E i).1 = Int.ofNat a then (gL Y i).2.2 else - (gL Y i).2.2 := by
 obtain ⟨hi, hq, ht, hu⟩ := hl
 have h1 := h.lv a ha
 have h2 := hY.2.2 a ha
 have hs := sg_one (X := X) (Y := Y) (a := Int.ofNat a) (i := i) (h.ft.1.trans hY.1.1.symm) (by rw [h.ft.1]; exact hi) fun j hj hne => by
  rw [h.ft.1] at hj
  have k1 := h.ft.2 j hj
  have k2 := hY.1.2 j hj
  refine fl_ft (k1.1.trans k2.1.symm) (k1.2.trans k2.2.symm) fun t => h.sol Y hY j hj ?_
  have h0 := h.nn j hj
  have : ¬ opn X j := fun o => hne (hu j hj o (by unfold tch at t ⊢; rw [← k2.1, ← k2.2]; exact t))
  unfold opn at this
  omega
 rw [fl_z _ hq] at hs
 have k2 := hY.1.2 i hi
 rw [fl_t (e := gL Y i) (by unfold tch at ht ⊢; rw [k2.1, k2.2]; exact ht) (by rw [k2.1, k2.2]; exact hn), k2.1] at hs
 split at hs
 ·rename_i e; rw [if_pos e]; omega
 ·rename_i e; rw [if_neg e]; omega
theorem Inv.step (h : Inv b E X lf) {a : Int} {i : Nat} (hl : Leaf E (opn X) a i) {n : Int} (hn : 0 < n) (hs : ∀ Y, SolL b E Y → n = (gL Y i).2.2) {lf' : List Int} (hlen : lf'.length = b.length)
  (hlf : ∀ c : Nat, c < b.length → lf'.getD c 0 = lf.getD c 0 + fl (Int.ofNat c) ((gL E i).1, (gL E i).2.1, n)) : Inv b E (X.set i ((gL E i).1, (gL E i).2.1, n)) lf' := by
 have hi := hl.1
 have hiX : i < X.length := by rw [h.ft.1]; exact hi
 have hg := gL_set X ((gL E i).1, (gL E i).2.1, n) hiX
 refine ⟨⟨(List.length_set ..).trans h.ft.1, fun j hj => ?_⟩, hlen, fun j hj => ?_, fun c hc => ?_, fun q hq => ?_, fun Y hY j hj hp => ?_⟩
 ·rw [hg]
  split
  ·rename_i e; subst e; exact ⟨rfl, rfl⟩
  ·exact h.ft.2 j hj
 ·rw [hg]
  split
  ·exact Int.le_of_lt hn
  ·exact h.nn j hj
 ·have : fl (Int.ofNat c) (gL X i) = 0 := fl_z _ hl.2.1
  rw [hlf c hc, h.lv c hc, sg_set hiX, this]; omega
 ·by_cases old : ∃ i, i < E.length ∧ q i ∧ 0 < (gL X i).2.2
  ·exact h.ord q old
  ·obtain ⟨k, hk, qk, pk⟩ := hq
   have hki : k = i := Classical.byContradiction fun e => by
    rw [hg, if_neg e] at pk
    exact old ⟨k, hk, qk, pk⟩
   subst hki
   refine ⟨a, k, hk, qk, hl.2.2.1, fun j hj qj tj => hl.2.2.2 j hj ?_ tj⟩
   have h0 := h.nn j hj
   have : ¬ 0 < (gL X j).2.2 := fun z => old ⟨j, hj, qj, z⟩
   unfold opn
   omega
 ·rw [hg] at hp ⊢
  split
  ·rename_i e; subst e; exact hs Y hY
  ·rename_i e
   rw [if_neg e] at hp
   exact h.sol Y hY j hj hp
theorem Inv.stuck (_ : Inv b E X lf) (hr : ∀ i, i < E.length → ∀ a, tch (gL E i) a → 0 ≤ a ∧ a < (b.length : Int)) (ho : ∃ i, i < E.length ∧ opn X i) (hn : ∀ a : Nat, a < b.length → ∀ i, ¬ Leaf E (opn X) (Int.ofNat a) i) : ¬ FR E := fun hf => by
 obtain ⟨a, i, hl⟩ := hf _ ho
 have ha := hr i hl.1 a hl.2.2.1
 refine hn a.toNat (by omega) i ?_
 rw [show Int.ofNat a.toNat = a from Int.toNat_of_nonneg ha.1]
 exact hl
theorem Inv.forest (h : Inv b E X lf) (hp : ∀ i, i < E.length → 0 < (gL X i).2.2) : FR E := fun q ⟨i, hi, qi⟩ => h.ord q ⟨i, hi, qi, hp i hi⟩
theorem Inv.solved (h : Inv b E X lf) (hp : ∀ i, i < E.length → 0 < (gL X i).2.2) (hz : ∀ a, a < b.length → lf.getD a 0 = 0) : SolL b E X := ⟨h.ft, hp, fun a ha => by rw [← h.lv a ha]; exact hz a ha⟩
theorem Inv.zero (h : Inv b E X lf) (hp : ∀ i, i < E.length → 0 < (gL X i).2.2) {Y : List LkI} (hY : SolL b E Y) : ∀ a, a < b.length → lf.getD a 0 = 0 := fun a ha => by
 have e := sg_eq (X := X) (Y := Y) (a := Int.ofNat a) (h.ft.1.trans hY.1.1.symm) fun j hj => by
  rw [h.ft.1] at hj
  have k1 := h.ft.2 j hj
  have k2 := hY.1.2 j hj
  exact fl_ft (k1.1.trans k2.1.symm) (k1.2.trans k2.2.symm) fun _ => h.sol Y hY j hj (hp j hj)
 rw [h.lv a ha, e]
 exact hY.2.2 a ha
theorem Inv.room (h : Inv b E X lf) {Y : List LkI} (hY : SolL b E Y) {i : Nat} (hi : i < E.length) (ho : opn X i) (hn : (gL E i).1 ≠ (gL E i).2.1) (hb : ∀ j k, j < E.length → k < E.length → (gL E j).1 ≠ (gL E k).2.1) {a : Nat} (ha : a < b.length) :
  ((gL E i).1 = Int.ofNat a → (gL Y i).2.2 ≤ lf.getD a 0) ∧ ((gL E i).2.1 = Int.ofNat a → lf.getD a 0 ≤ - (gL Y i).2.2) := by
 have h1 := h.lv a ha
 have h2 := hY.2.2 a ha
 have kx : ∀ j, j < E.length → (gL X j).2.2 ≤ (gL Y j).2.2 := fun j hj => by
  have h0 := h.nn j hj
  by_cases p : 0 < (gL X j).2.2
  ·exact Int.le_of_eq (h.sol Y hY j hj p)
  ·have := hY.2.1 j hj; omega
 have ky := hY.1.2 i hi
 constructor
 ·intro e
  have hs := sg_le1 (X := Y) (Y := X) (a := Int.ofNat a) (i := i) (hY.1.1.trans h.ft.1.symm) (by rw [hY.1.1]; exact hi) fun j hj => by
   rw [hY.1.1] at hj
   have k1 := h.ft.2 j hj
   have k2 := hY.1.2 j hj
   have nt : (gL E j).2.1 ≠ Int.ofNat a := fun z => hb i j hi hj (e.trans z.symm)
   unfold fl
   rw [k1.1, k1.2, k2.1, k2.2, if_neg nt, if_neg nt]
   have := kx j hj
   split <;> omega
  rw [fl_z _ ho, fl_t (e := gL Y i) (by unfold tch; rw [ky.1]; exact .inl e) (by rw [ky.1, ky.2]; exact hn), ky.1, if_pos e] at hs
  omega
 ·intro e
  have hs := sg_le1 (X := X) (Y := Y) (a := Int.ofNat a) (i := i) (h.ft.1.trans hY.1.1.symm) (by rw [h.ft.1]; exact hi) fun j hj => by
   rw [h.ft.1] at hj
   have k1 := h.ft.2 j hj
   have k2 := hY.1.2 j hj
   have nt : (gL E j).1 ≠ Int.ofNat a := fun z => hb j i hj hi (z.trans e.symm)
   unfold fl
   rw [k1.1, k1.2, k2.1, k2.2, if_neg nt, if_neg nt]
   have := kx j hj
   split <;> omega
  rw [fl_z _ ho, fl_t (e := gL Y i) (by unfold tch; rw [ky.2]; exact .inr e) (by rw [ky.1, ky.2]; exact hn), ky.1, if_neg (fun z => hb i i hi hi (z.trans e.symm))] at hs
  omega
open Classical in
def slv (b : List Int) (E : List LkI) : Option (List LkI) := if h : FR E ∧ ∃ Y, SolL b E Y then some h.2.choose else none
theorem slv_none : slv b E = none ↔ ¬ (FR E ∧ ∃ Y, SolL b E Y) := by
 unfold slv
 split
 ·rename_i h; exact ⟨fun z => (nomatch z), fun z => absurd h z⟩
 ·rename_i h; exact ⟨fun _ => h, fun _ => rfl⟩
theorem slv_sol {Y : List LkI} (h : slv b E = some Y) : FR E ∧ SolL b E Y := by
 unfold slv at h
 split at h
 ·rename_i k
  injection h with h
  rw [← h]
  exact ⟨k.1, k.2.choose_spec⟩
 ·cases h
theorem slv_some (hr : ∀ i, i < E.length → (gL E i).1 ≠ (gL E i).2.1 ∧ ∀ a, tch (gL E i) a → 0 ≤ a ∧ a < (b.length : Int)) {Y : List LkI} (hf : FR E) (hY : SolL b E Y) : slv b E = some Y := by
 cases e : slv b E with
 |none => exact absurd ⟨hf, Y, hY⟩ (slv_none.1 e)
 |some Z => rw [(slv_sol e).1.uniq hr (slv_sol e).2 hY]
end
end Go.Abs.Seat

/-! Books of accounts, plain: what is paid with the fewest entries is a forest; there is one. -/
namespace Go.Abs.Seat
noncomputable section
open Go Go.Abs Go.Proofs.Tryz
set_option maxRecDepth 100000
set_option maxHeartbeats 4000000

def zr (Z : List LkI) : List LkI := Z.map fun e => (e.1, e.2.1, 0)
theorem zr_len (Z : List LkI) : (zr Z).length = Z.length := List.length_map _
theorem gL_zr (Z : List LkI) (i : Nat) : gL (zr Z) i = ((gL Z i).1, (gL Z i).2.1, 0) := by
 by_cases h : i < Z.length
 ·simp [gL, zr, List.getD, h]
 ·simp [gL, zr, List.getD, h]
theorem zr_ft {E X : List LkI} (hz : ∀ i, i < E.length → (gL E i).2.2 = 0) (h : SameFT E X) : zr X = E := by
 refine gL_ext ((zr_len X).trans h.1) fun j hj => ?_
 rw [zr_len, h.1] at hj
 rw [gL_zr, (h.2 j hj).1, (h.2 j hj).2, ← hz j hj]
theorem gL_mem' (l : List LkI) {i : Nat} (h : i < l.length) : gL l i ∈ l := by
 have e : gL l i = l[i] := by simp [gL, List.getD, h]
 rw [e]; exact List.getElem_mem h
theorem mem_gL' {l : List LkI} {e : LkI} (h : e ∈ l) : ∃ i, i < l.length ∧ gL l i = e := by
 obtain ⟨i, hi, rfl⟩ := List.getElem_of_mem h
 exact ⟨i, hi, by simp [gL, List.getD, hi]⟩
def StL (b : List Int) (C Z : List LkI) : Prop := (zr Z).Sublist C ∧ (∀ e, e ∈ Z → 0 < e.2.2) ∧ ∀ a : Nat, a < b.length → b.getD a 0 + sg Z (Int.ofNat a) = 0
theorem StL.sol {b : List Int} {C Z : List LkI} (h : StL b C Z) : SolL b (zr Z) Z := by
 refine ⟨⟨(zr_len Z).symm, fun i _ => by rw [gL_zr]; exact ⟨rfl, rfl⟩⟩, fun i hi => ?_, h.2.2⟩
 rw [zr_len] at hi
 exact h.2.1 _ (gL_mem' Z hi)
structure CanP (b : List Int) (C : List LkI) : Prop where
 n5 : b.length ≤ 5
 nd : C.Nodup
 mem : ∀ e, e ∈ C ↔ ∃ f t : Nat, (f < b.length ∧ 0 < b.getD f 0) ∧ (t < b.length ∧ b.getD t 0 < 0) ∧ e = (Int.ofNat f, Int.ofNat t, 0)
theorem pgB : ((List.range 5).all fun p => (List.range 5).all fun r => (List.range 5).all fun s => (List.range 5).all fun x => (List.range 5).all fun y => (List.range 5).all fun z => p == r || p == s || r == s || p == x || r == x || s == x || p == y || r == y || s == y || x == y || z == p || z == r || z == s || z == x || z == y) = true := by decide +kernel
theorem pgN {p r s x y z : Nat} (hp : p < 5) (hr : r < 5) (hs : s < 5) (hx : x < 5) (hy : y < 5) (hz : z < 5) (h1 : p ≠ r) (h2 : p ≠ s) (h3 : r ≠ s) (h4 : p ≠ x) (h5 : r ≠ x) (h6 : s ≠ x) (h7 : p ≠ y) (h8 : r ≠ y) (h9 : s ≠ y) (h10 : x ≠ y) (h11 : z ≠ p) (h12 : z ≠ r) (h13 : z ≠ s) (h14 : z ≠ x) : z = y := by
 have := List.all_eq_true.1 (List.all_eq_true.1 (List.all_eq_true.1 (List.all_eq_true.1 (List.all_eq_true.1 (List.all_eq_true.1 pgB p (List.mem_range.2 hp)) r (List.mem_range.2 hr)) s (List.mem_range.2 hs)) x (List.mem_range.2 hx)) y (List.mem_range.2 hy)) z (List.mem_range.2 hz)
 simp only [Bool.or_eq_true, beq_iff_eq, h1, h2, h3, h4, h5, h6, h7, h8, h9, h10, h11, h12, h13, h14, false_or] at this
 exact this
variable {b : List Int} {C Z : List LkI}
theorem StL.at (hC : CanP b C) (h : StL b C Z) {i : Nat} (hi : i < Z.length) : ∃ f t : Nat, (f < b.length ∧ 0 < b.getD f 0) ∧ (t < b.length ∧ b.getD t 0 < 0) ∧ (gL Z i).1 = Int.ofNat f ∧ (gL Z i).2.1 = Int.ofNat t := by
 have hm : gL (zr Z) i ∈ C := h.1.mem (gL_mem' _ (by rw [zr_len]; exact hi))
 obtain ⟨f, t, h1, h2, h3⟩ := (hC.mem _).1 hm
 rw [gL_zr] at h3
 exact ⟨f, t, h1, h2, congrArg (·.1) h3, congrArg (·.2.1) h3⟩
theorem nodup_gL {l : List LkI} (h : l.Nodup) {i j : Nat} (hi : i < l.length) (hj : j < l.length) (e : gL l i = gL l j) : i = j := by
 have e1 : gL l i = l[i] := by simp [gL, List.getD, hi]
 have e2 : gL l j = l[j] := by simp [gL, List.getD, hj]
 exact (List.getElem_inj h).1 (e1.symm.trans (e.trans e2))
theorem StL.inj (hC : CanP b C) (h : StL b C Z) {i j : Nat} (hi : i < Z.length) (hj : j < Z.length) (h1 : (gL Z i).1 = (gL Z j).1) (h2 : (gL Z i).2.1 = (gL Z j).2.1) : i = j :=
 nodup_gL (h.1.nodup hC.nd) (by rw [zr_len]; exact hi) (by rw [zr_len]; exact hj) (by rw [gL_zr, gL_zr, h1, h2])
theorem StL.cyc (hC : CanP b C) (h : StL b C Z) (hn : ¬ FR (zr Z)) : ∃ i j k l, (i < Z.length ∧ j < Z.length ∧ k < Z.length ∧ l < Z.length) ∧ (gL Z i).1 = (gL Z j).1 ∧ (gL Z i).2.1 = (gL Z k).2.1 ∧ (gL Z k).1 = (gL Z l).1 ∧ (gL Z j).2.1 = (gL Z l).2.1 ∧ (gL Z i).1 ≠ (gL Z k).1 ∧ (gL Z i).2.1 ≠ (gL Z j).2.1 := by
 refine Classical.byContradiction fun hc => hn fun q ⟨i0, hi0, q0⟩ => Classical.byContradiction fun hl => hc ?_
 rw [zr_len] at hi0
 have more : ∀ i, i < Z.length → q i → ∀ a, tch (gL Z i) a → ∃ j, j < Z.length ∧ q j ∧ tch (gL Z j) a ∧ j ≠ i := fun i hi qi a ta => Classical.byContradiction fun hm => hl ⟨a, i, by rw [zr_len]; exact hi, qi, by rw [gL_zr]; exact ta, fun j hj qj tj => Classical.byContradiction fun hji => hm ⟨j, by rw [zr_len] at hj; exact hj, qj, by rw [gL_zr] at tj; exact tj, hji⟩⟩
 have mF : ∀ i, i < Z.length → q i → ∃ j, j < Z.length ∧ q j ∧ (gL Z j).1 = (gL Z i).1 ∧ (gL Z j).2.1 ≠ (gL Z i).2.1 := fun i hi qi => by
  obtain ⟨j, hj, qj, tj, hji⟩ := more i hi qi _ (.inl rfl)
  obtain ⟨f, t, h1, h2, h3, h4⟩ := h.at hC hi
  obtain ⟨f', t', h1', h2', h3', h4'⟩ := h.at hC hj
  have e : (gL Z j).1 = (gL Z i).1 := by
   rcases tj with e | e
   ·exact e
   ·rw [h3, h4'] at e
    have := Int.ofNat.inj e
    subst this; omega
  exact ⟨j, hj, qj, e, fun e2 => hji (h.inj hC hj hi e e2)⟩
 have mT : ∀ i, i < Z.length → q i → ∃ j, j < Z.length ∧ q j ∧ (gL Z j).2.1 = (gL Z i).2.1 ∧ (gL Z j).1 ≠ (gL Z i).1 := fun i hi qi => by
  obtain ⟨j, hj, qj, tj, hji⟩ := more i hi qi _ (.inr rfl)
  obtain ⟨f, t, h1, h2, h3, h4⟩ := h.at hC hi
  obtain ⟨f', t', h1', h2', h3', h4'⟩ := h.at hC hj
  have e : (gL Z j).2.1 = (gL Z i).2.1 := by
   rcases tj with e | e
   ·rw [h4, h3'] at e
    have := Int.ofNat.inj e
    subst this; omega
   ·exact e
  exact ⟨j, hj, qj, e, fun e2 => hji (h.inj hC hj hi e2 e)⟩
 obtain ⟨i1, hi1, q1, a1, b1⟩ := mF i0 hi0 q0
 obtain ⟨i2, hi2, q2, a2, b2⟩ := mT i0 hi0 q0
 obtain ⟨i3, hi3, q3, a3, b3⟩ := mT i1 hi1 q1
 by_cases e : (gL Z i2).1 = (gL Z i3).1
 ·exact ⟨i0, i1, i2, i3, ⟨hi0, hi1, hi2, hi3⟩, a1.symm, a2.symm, e, a3.symm, b2.symm, b1.symm⟩
 ·obtain ⟨i4, hi4, q4, a4, b4⟩ := mF i2 hi2 q2
  refine ⟨i0, i1, i2, i4, ⟨hi0, hi1, hi2, hi4⟩, a1.symm, a2.symm, a4.symm, ?_, b2.symm, b1.symm⟩
  obtain ⟨p, x, p1, p2, p3, p4⟩ := h.at hC hi0
  obtain ⟨_, y, _, r2, _, r4⟩ := h.at hC hi1
  obtain ⟨r, _, s1, _, s3, _⟩ := h.at hC hi2
  obtain ⟨s, _, t1, _, t3, _⟩ := h.at hC hi3
  obtain ⟨_, z, _, u2, _, u4⟩ := h.at hC hi4
  have n5 := hC.n5
  have ne : ∀ {u v : Nat}, Int.ofNat u ≠ Int.ofNat v → u ≠ v := fun h e => h (congrArg Int.ofNat e)
  rw [p3, s3] at b2
  rw [a1, p3, t3] at b3
  rw [s3, t3] at e
  rw [r4, p4] at b1
  rw [a2, u4, p4] at b4
  have pos : ∀ {u v : Nat}, 0 < b.getD u 0 → b.getD v 0 < 0 → u ≠ v := fun h k e => by subst e; omega
  rw [r4, u4]
  refine congrArg Int.ofNat (pgN (p := p) (r := r) (s := s) (x := x) (y := y) (z := z) ?_ ?_ ?_ ?_ ?_ ?_ (ne b2).symm (ne b3).symm (ne e) ?_ ?_ ?_ ?_ ?_ ?_ (ne b1).symm ?_ ?_ ?_ (ne b4)).symm
  ·omega
  ·omega
  ·omega
  ·omega
  ·omega
  ·omega
  ·exact pos p1.2 p2.2
  ·exact pos s1.2 p2.2
  ·exact pos t1.2 p2.2
  ·exact pos p1.2 r2.2
  ·exact pos s1.2 r2.2
  ·exact pos t1.2 r2.2
  ·exact (pos p1.2 u2.2).symm
  ·exact (pos s1.2 u2.2).symm
  ·exact (pos t1.2 u2.2).symm

def nz (Z : List LkI) : List LkI := Z.filter fun e => decide (e.2.2 ≠ 0)
theorem nz_sg : ∀ (Z : List LkI) (a : Int), sg (nz Z) a = sg Z a
 | [], _ => rfl
 |e :: r, a => by
  unfold nz
  rw [List.filter_cons]
  by_cases h : e.2.2 = 0
  ·rw [if_neg (by simp [h]), sg, fl_z a h]
   have := nz_sg r a
   unfold nz at this
   omega
  ·rw [if_pos (by simp [h]), sg, sg]
   have := nz_sg r a
   unfold nz at this
   omega
theorem nz_zr (Z : List LkI) : (zr (nz Z)).Sublist (zr Z) := (List.filter_sublist).map _
theorem nz_lt {Z : List LkI} {e : LkI} (h : e ∈ Z) (h0 : e.2.2 = 0) : (nz Z).length < Z.length := by
 refine Nat.lt_of_le_of_ne (List.length_filter_le ..) fun k => ?_
 have := (List.length_filter_eq_length_iff.1 k) e h
 rw [h0] at this
 simp at this
theorem zr_set {Z : List LkI} {i : Nat} (hi : i < Z.length) {c : Int} : zr (Z.set i ((gL Z i).1, (gL Z i).2.1, c)) = zr Z := by
 refine gL_ext (by rw [zr_len, zr_len, List.length_set]) fun j _ => ?_
 rw [gL_zr, gL_zr, gL_set Z _ hi]
 by_cases e : j = i
 ·rw [if_pos e, e]
 ·rw [if_neg e]
def addC (Z : List LkI) (i : Nat) (c : Int) : List LkI := Z.set i ((gL Z i).1, (gL Z i).2.1, (gL Z i).2.2 + c)
theorem addC_len (Z : List LkI) (i : Nat) (c : Int) : (addC Z i c).length = Z.length := List.length_set ..
theorem addC_zr {i : Nat} (hi : i < Z.length) (c : Int) : zr (addC Z i c) = zr Z := zr_set hi
theorem addC_ft {i : Nat} (hi : i < Z.length) (c : Int) (j : Nat) : (gL (addC Z i c) j).1 = (gL Z j).1 ∧ (gL (addC Z i c) j).2.1 = (gL Z j).2.1 := by
 have := gL_zr (addC Z i c) j
 rw [addC_zr hi, gL_zr] at this
 exact ⟨(congrArg (·.1) this).symm, (congrArg (·.2.1) this).symm⟩
theorem addC_c {i : Nat} (hi : i < Z.length) (c : Int) (j : Nat) : (gL (addC Z i c) j).2.2 = (gL Z j).2.2 + if j = i then c else 0 := by
 unfold addC
 rw [gL_set Z _ hi]
 by_cases e : j = i
 ·rw [if_pos e, if_pos e, e]
 ·rw [if_neg e, if_neg e]; omega
theorem fl_add (a f t c d : Int) : fl a (f, t, c + d) = fl a (f, t, c) + fl a (f, t, d) := by
 show (if t = a then c + d else 0) - (if f = a then c + d else 0) = (if t = a then c else 0) - (if f = a then c else 0) + ((if t = a then d else 0) - (if f = a then d else 0))
 split <;> split <;> omega
theorem fl4 (a p r x y m : Int) : fl a (p, x, -m) + fl a (r, y, -m) + fl a (p, y, m) + fl a (r, x, m) = 0 := by
 show (if x = a then -m else 0) - (if p = a then -m else 0) + ((if y = a then -m else 0) - (if r = a then -m else 0)) + ((if y = a then m else 0) - (if p = a then m else 0)) + ((if x = a then m else 0) - (if r = a then m else 0)) = 0
 split <;> split <;> split <;> split <;> omega
theorem addC_sg {i : Nat} (hi : i < Z.length) (c a : Int) : sg (addC Z i c) a = sg Z a + fl a ((gL Z i).1, (gL Z i).2.1, c) := by
 unfold addC
 rw [sg_set hi, fl_add]
 have : fl a ((gL Z i).1, (gL Z i).2.1, (gL Z i).2.2) = fl a (gL Z i) := rfl
 omega
theorem StL.less (hC : CanP b C) (h : StL b C Z) (hn : ¬ FR (zr Z)) : ∃ Z', StL b C Z' ∧ Z'.length < Z.length := by
 obtain ⟨i, j, k, l, ⟨hi, hj, hk, hl⟩, e1, e2, e3, e4, n1, n2⟩ := h.cyc hC hn
 obtain ⟨m, hm⟩ : ∃ m, m = min (gL Z i).2.2 (gL Z l).2.2 := ⟨_, rfl⟩
 have pi := h.2.1 _ (gL_mem' Z hi)
 have pj := h.2.1 _ (gL_mem' Z hj)
 have pk := h.2.1 _ (gL_mem' Z hk)
 have pl := h.2.1 _ (gL_mem' Z hl)
 have dij : i ≠ j := fun e => n2 (by rw [e])
 have dik : i ≠ k := fun e => n1 (by rw [e])
 have dil : i ≠ l := fun e => n1 (by rw [e3, e])
 have djk : j ≠ k := fun e => n1 (by rw [e1, e])
 have djl : j ≠ l := fun e => n1 (by rw [e1, e3, e])
 have dkl : k ≠ l := fun e => n2 (by rw [e2, e4, e])
 have l1 := addC_len Z i (-m)
 have l2 := addC_len (addC Z i (-m)) l (-m)
 have l3 := addC_len (addC (addC Z i (-m)) l (-m)) j m
 have l4 := addC_len (addC (addC (addC Z i (-m)) l (-m)) j m) k m
 have k1 := addC_ft (Z := Z) hi (-m)
 have k2 := addC_ft (Z := addC Z i (-m)) (i := l) (by omega) (-m)
 have k3 := addC_ft (Z := addC (addC Z i (-m)) l (-m)) (i := j) (by omega) m
 have c1 := addC_c (Z := Z) hi (-m)
 have c2 := addC_c (Z := addC Z i (-m)) (i := l) (by omega) (-m)
 have c3 := addC_c (Z := addC (addC Z i (-m)) l (-m)) (i := j) (by omega) m
 have c4 := addC_c (Z := addC (addC (addC Z i (-m)) l (-m)) j m) (i := k) (by omega) m
 have z1 := addC_zr (Z := Z) hi (-m)
 have z2 := addC_zr (Z := addC Z i (-m)) (i := l) (by omega) (-m)
 have z3 := addC_zr (Z := addC (addC Z i (-m)) l (-m)) (i := j) (by omega) m
 have z4 := addC_zr (Z := addC (addC (addC Z i (-m)) l (-m)) j m) (i := k) (by omega) m
 have s1 := addC_sg (Z := Z) hi (-m)
 have s2 := addC_sg (Z := addC Z i (-m)) (i := l) (by omega) (-m)
 have s3 := addC_sg (Z := addC (addC Z i (-m)) l (-m)) (i := j) (by omega) m
 have s4 := addC_sg (Z := addC (addC (addC Z i (-m)) l (-m)) j m) (i := k) (by omega) m
 rw [(k1 l).1, (k1 l).2] at s2
 rw [(k2 j).1, (k2 j).2, (k1 j).1, (k1 j).2] at s3
 rw [(k3 k).1, (k3 k).2, (k2 k).1, (k2 k).2, (k1 k).1, (k1 k).2] at s4
 generalize addC (addC (addC (addC Z i (-m)) l (-m)) j m) k m = W at *
 generalize addC (addC (addC Z i (-m)) l (-m)) j m = W3 at *
 generalize addC (addC Z i (-m)) l (-m) = W2 at *
 generalize addC Z i (-m) = W1 at *
 have hW : ∀ x, (gL W x).2.2 = (gL Z x).2.2 + (if x = i then -m else 0) + (if x = l then -m else 0) + (if x = j then m else 0) + (if x = k then m else 0) := fun x => by rw [c4, c3, c2, c1]
 refine ⟨nz W, ⟨?_, fun e he => ?_, fun a ha => ?_⟩, ?_⟩
 ·have := nz_zr W
  rw [z4, z3, z2, z1] at this
  exact this.trans h.1
 ·obtain ⟨hw, h0⟩ := List.mem_filter.1 he
  obtain ⟨x, hx, rfl⟩ := mem_gL' hw
  have h0 : (gL W x).2.2 ≠ 0 := of_decide_eq_true h0
  have px := h.2.1 _ (gL_mem' Z (i := x) (by omega))
  have := hW x
  by_cases x1 : x = i
  ·subst x1
   rw [if_pos rfl, if_neg dil, if_neg dij, if_neg dik] at this
   omega
  ·rw [if_neg x1] at this
   by_cases x2 : x = l
   ·subst x2
    rw [if_pos rfl, if_neg djl.symm, if_neg dkl.symm] at this
    omega
   ·rw [if_neg x2] at this
    split at this <;> split at this <;> omega
 ·rw [nz_sg, s4, s3, s2, s1, ← e3, ← e2, ← e1, ← e4]
  have h1 := h.2.2 a ha
  have h2 := fl4 (Int.ofNat a) (gL Z i).1 (gL Z k).1 (gL Z i).2.1 (gL Z j).2.1 m
  omega
 ·have hlen : W.length = Z.length := by omega
  rw [← hlen]
  by_cases x : (gL Z i).2.2 ≤ (gL Z l).2.2
  ·refine nz_lt (gL_mem' W (i := i) (by omega)) ?_
   rw [hW, if_pos rfl, if_neg dil, if_neg dij, if_neg dik]
   omega
  ·refine nz_lt (gL_mem' W (i := l) (by omega)) ?_
   rw [hW, if_neg dil.symm, if_pos rfl, if_neg djl.symm, if_neg dkl.symm]
   omega
theorem StL.best (hC : CanP b C) : ∀ (n : Nat) (Z : List LkI), Z.length ≤ n → StL b C Z → ∃ X, StL b C X ∧ FR (zr X) ∧ X.length ≤ Z.length ∧ (¬ FR (zr Z) → X.length < Z.length)
 | 0, Z, hn, h => by
  refine ⟨Z, h, fun q ⟨i, hi, _⟩ => ?_, Nat.le_refl _, fun z => absurd (fun q ⟨i, hi, _⟩ => ?_) z⟩
  all_goals
   rw [zr_len] at hi
   omega
 |n + 1, Z, hn, h => by
  by_cases hf : FR (zr Z)
  ·exact ⟨Z, h, hf, Nat.le_refl _, fun z => absurd hf z⟩
  ·obtain ⟨Z', h', hl⟩ := h.less hC hf
   obtain ⟨X, x1, x2, x3, _⟩ := StL.best hC n Z' (by omega) h'
   exact ⟨X, x1, x2, by omega, fun _ => by omega⟩

def sumN : Nat → (Nat → Int) → Int
 | 0, _ => 0
 |n + 1, f => sumN n f + f n
theorem sumN_eq : ∀ {n : Nat} {f g : Nat → Int}, (∀ i, i < n → f i = g i) → sumN n f = sumN n g
 | 0, _, _, _ => rfl
 |n + 1, f, g, h => by rw [sumN, sumN, sumN_eq fun i hi => h i (Nat.lt_succ_of_lt hi), h n (Nat.lt_succ_self n)]
theorem sumN_add : ∀ (n : Nat) (f g : Nat → Int), sumN n (fun i => f i + g i) = sumN n f + sumN n g
 | 0, _, _ => rfl
 |n + 1, f, g => by rw [sumN, sumN, sumN, sumN_add n f g]; omega
theorem sumN_z : ∀ (n : Nat), sumN n (fun _ => 0) = 0
 | 0 => rfl
 |n + 1 => by rw [sumN, sumN_z n]; rfl
theorem sumN_at : ∀ (n : Nat) (f : Nat) (c : Int), sumN n (fun i => if i = f then c else 0) = if f < n then c else 0
 | 0, _, _ => rfl
 |n + 1, f, c => by
  rw [sumN, sumN_at n f c]
  by_cases h : f < n
  ·rw [if_pos h, if_neg (show ¬ n = f by omega), if_pos (show f < n + 1 by omega)]; omega
  ·by_cases e : n = f
   ·rw [if_neg h, if_pos e, if_pos (show f < n + 1 by omega)]; omega
   ·rw [if_neg h, if_neg e, if_neg (show ¬ f < n + 1 by omega)]; rfl
theorem sumN_nn : ∀ {n : Nat} {f : Nat → Int}, (∀ i, i < n → 0 ≤ f i) → 0 ≤ sumN n f ∧ (sumN n f = 0 → ∀ i, i < n → f i = 0)
 | 0, _, _ => ⟨Int.le_refl _, fun _ i hi => absurd hi (Nat.not_lt_zero i)⟩
 |n + 1, f, h => by
  have ih := sumN_nn (n := n) (f := f) fun i hi => h i (Nat.lt_succ_of_lt hi)
  have hn := h n (Nat.lt_succ_self n)
  rw [sumN]
  refine ⟨by omega, fun hz i hi => ?_⟩
  by_cases e : i = n
  ·subst e; omega
  ·exact ih.2 (by omega) i (by omega)
theorem sumN_neg : ∀ (n : Nat) (f : Nat → Int), sumN n (fun i => - f i) = - sumN n f
 | 0, _ => rfl
 |n + 1, f => by rw [sumN, sumN, sumN_neg n f]; omega
theorem sumN_some {n : Nat} {f : Nat → Int} (h : sumN n f = 0) (hn : ¬ ∀ i, i < n → f i = 0) : (∃ i, i < n ∧ 0 < f i) ∧ ∃ i, i < n ∧ f i < 0 := by
 constructor
 ·refine Classical.byContradiction fun hc => hn fun i hi => ?_
  have := (sumN_nn (n := n) (f := fun i => - f i) fun j hj => by
   have : ¬ 0 < f j := fun z => hc ⟨j, hj, z⟩
   omega).2 (by rw [sumN_neg, h]; rfl) i hi
  omega
 ·refine Classical.byContradiction fun hc => hn fun i hi => ?_
  exact (sumN_nn (n := n) (f := f) fun j hj => by
   have : ¬ f j < 0 := fun z => hc ⟨j, hj, z⟩
   omega).2 h i hi
def pos (x : Int) : Int := if 0 < x then x else 0
theorem getD_set (b : List Int) (x : Int) {i : Nat} (hi : i < b.length) (j : Nat) : (b.set i x).getD j 0 = if j = i then x else b.getD j 0 := by
 by_cases e : j = i
 ·subst e
  rw [if_pos rfl]
  simp [List.getD, hi]
 ·rw [if_neg e]
  simp [List.getD, Ne.symm e]
theorem exi {b0 : List Int} (hC : CanP b0 C) : ∀ (N : Nat) (b : List Int), b.length = b0.length → sumN b.length (fun a => pos (b.getD a 0)) ≤ (N : Int) → sumN b.length (fun a => b.getD a 0) = 0 →
  (∀ a, a < b0.length → (0 < b.getD a 0 → 0 < b0.getD a 0) ∧ (b.getD a 0 < 0 → b0.getD a 0 < 0)) → ∃ Z, zr Z = C ∧ (∀ e, e ∈ Z → 0 ≤ e.2.2) ∧ ∀ a : Nat, a < b0.length → b.getD a 0 + sg Z (Int.ofNat a) = 0
 |N, b, hlen, hN, hs, hb => by
  by_cases hz : ∀ i, i < b.length → b.getD i 0 = 0
  ·have cz : ∀ e, e ∈ C → e.2.2 = 0 := fun e he => by
    obtain ⟨f, t, _, _, rfl⟩ := (hC.mem e).1 he
    rfl
   refine ⟨C, zr_ft (fun i hi => cz _ (gL_mem' C hi)) ⟨rfl, fun _ _ => ⟨rfl, rfl⟩⟩, fun e he => by rw [cz e he]; exact Int.le_refl _, fun a ha => ?_⟩
   rw [hz a (by omega)]
   have : ∀ L : List LkI, (∀ e, e ∈ L → e.2.2 = 0) → sg L (Int.ofNat a) = 0 := fun L => by
    induction L with
    |nil => exact fun _ => rfl
    |cons e r ih => exact fun h => by rw [sg, fl_z _ (h e (List.mem_cons_self ..)), ih fun x hx => h x (List.mem_cons_of_mem _ hx)]; rfl
   rw [this C cz]; rfl
  ·obtain ⟨⟨f, hf, pf⟩, t, ht, pt⟩ := sumN_some hs hz
   have hft : f ≠ t := fun e => by subst e; omega
   have g1 := getD_set b (b.getD f 0 - 1) hf
   have g2 := getD_set (b.set f (b.getD f 0 - 1)) (b.getD t 0 + 1) (i := t) (by rw [List.length_set]; exact ht)
   have hl2 : ((b.set f (b.getD f 0 - 1)).set t (b.getD t 0 + 1)).length = b.length := by rw [List.length_set, List.length_set]
   generalize (b.set f (b.getD f 0 - 1)).set t (b.getD t 0 + 1) = c at *
   have hc : ∀ a, c.getD a 0 = b.getD a 0 + (if a = f then -1 else 0) + (if a = t then 1 else 0) := fun a => by
    rw [g2, g1]
    by_cases e1 : a = t
    ·subst e1
     rw [if_pos rfl, if_pos rfl, if_neg hft.symm]; omega
    ·rw [if_neg e1, if_neg e1]
     by_cases e2 : a = f
     ·subst e2
      rw [if_pos rfl, if_pos rfl]; omega
     ·rw [if_neg e2, if_neg e2]; omega
   have hpos : sumN c.length (fun a => pos (c.getD a 0)) = sumN b.length (fun a => pos (b.getD a 0)) - 1 := by
    rw [hl2, sumN_eq (g := fun a => pos (b.getD a 0) + if a = f then -1 else 0) fun a _ => ?_, sumN_add, sumN_at, if_pos hf]
    ·omega
    ·rw [hc]
     unfold pos
     by_cases e1 : a = t
     ·subst e1
      rw [if_neg hft.symm, if_pos rfl, if_neg (by omega), if_neg (by omega)]; rfl
     ·by_cases e2 : a = f
      ·subst e2
       rw [if_neg e1, if_pos rfl, if_pos pf]
       split <;> omega
      ·rw [if_neg e1, if_neg e2]
       have : b.getD a 0 + 0 + 0 = b.getD a 0 := by omega
       rw [this]; omega
   have hn0 := (sumN_nn (n := b.length) (f := fun a => pos (b.getD a 0)) fun i _ => by unfold pos; split <;> omega)
   have hN0 : N ≠ 0 := fun e => by
    subst e
    have := hn0.2 (by have := hn0.1; omega) f hf
    have e : pos (b.getD f 0) = 0 := this
    unfold pos at e
    rw [if_pos pf] at e
    omega
   obtain ⟨M, rfl⟩ : ∃ M, N = M + 1 := ⟨N - 1, by omega⟩
   obtain ⟨Z, hz1, hz2, hz3⟩ := exi hC M c (hl2.trans hlen) (by omega) (by
    rw [hl2, sumN_eq (g := fun a => b.getD a 0 + ((if a = f then -1 else 0) + (if a = t then 1 else 0))) fun a _ => by rw [hc]; omega, sumN_add, sumN_add, sumN_at, sumN_at, if_pos hf, if_pos ht, hs]; rfl) fun a ha => by
    have := hb a ha
    have hca := hc a
    by_cases e1 : a = t
    ·subst e1
     rw [if_neg hft.symm, if_pos rfl] at hca
     exact ⟨fun z => by omega, fun z => this.2 (by omega)⟩
    ·by_cases e2 : a = f
     ·subst e2
      rw [if_neg e1, if_pos rfl] at hca
      exact ⟨fun z => this.1 (by omega), fun z => by omega⟩
     ·rw [if_neg e1, if_neg e2] at hca
      exact ⟨fun z => this.1 (by omega), fun z => this.2 (by omega)⟩
   have hmem : (Int.ofNat f, Int.ofNat t, 0) ∈ C := (hC.mem _).2 ⟨f, t, ⟨by omega, (hb f (by omega)).1 pf⟩, ⟨by omega, (hb t (by omega)).2 pt⟩, rfl⟩
   obtain ⟨i, hi, hi2⟩ := mem_gL' hmem
   have hiZ : i < Z.length := by rw [← zr_len, hz1]; exact hi
   rw [← hz1, gL_zr] at hi2
   have e1 : (gL Z i).1 = Int.ofNat f := congrArg (·.1) hi2
   have e2 : (gL Z i).2.1 = Int.ofNat t := congrArg (·.2.1) hi2
   refine ⟨addC Z i 1, (addC_zr hiZ 1).trans hz1, fun e he => ?_, fun a ha => ?_⟩
   ·obtain ⟨x, hx, rfl⟩ := mem_gL' he
    rw [addC_c hiZ]
    rw [addC_len] at hx
    have := hz2 _ (gL_mem' Z hx)
    split <;> omega
   ·rw [addC_sg hiZ, e1, e2]
    have h3 := hz3 a ha
    rw [hc] at h3
    show b.getD a 0 + (sg Z (Int.ofNat a) + ((if Int.ofNat t = Int.ofNat a then 1 else 0) - (if Int.ofNat f = Int.ofNat a then 1 else 0))) = 0
    have d1 : (Int.ofNat t = Int.ofNat a) = (a = t) := propext ⟨fun z => (Int.ofNat.inj z).symm, fun z => by rw [z]⟩
    have d2 : (Int.ofNat f = Int.ofNat a) = (a = f) := propext ⟨fun z => (Int.ofNat.inj z).symm, fun z => by rw [z]⟩
    simp only [d1, d2]
    split at h3 <;> split at h3 <;> (first | omega | (split <;> first | omega | (split <;> omega)))
theorem StL.ex (hC : CanP b C) (hs : sumN b.length (fun a => b.getD a 0) = 0) : ∃ Z, StL b C Z := by
 obtain ⟨N, hN⟩ : ∃ N : Nat, sumN b.length (fun a => pos (b.getD a 0)) ≤ (N : Int) := ⟨_, Int.self_le_toNat _⟩
 obtain ⟨Z, h1, h2, h3⟩ := exi hC N b rfl hN hs fun a _ => ⟨id, id⟩
 refine ⟨nz Z, ?_, fun e he => ?_, fun a ha => by rw [nz_sg]; exact h3 a ha⟩
 ·have := nz_zr Z
  rw [h1] at this
  exact this
 ·obtain ⟨hw, h0⟩ := List.mem_filter.1 he
  have h0 : e.2.2 ≠ 0 := of_decide_eq_true h0
  have := h2 e hw
  omega
end
end Go.Abs.Seat

/-! Books of accounts, plain: the best settlement. -/
namespace Go.Abs.Seat
noncomputable section
open Go Go.Abs Go.Proofs.Tryz
set_option maxRecDepth 100000
set_option maxHeartbeats 4000000

def elP (x y : LkI) : Prop := x.1 < y.1 ∨ x.1 = y.1 ∧ x.2.1 < y.2.1
instance (x y : LkI) : Decidable (elP x y) := inferInstanceAs (Decidable (_ ∨ _))
def lxP : List LkI → List LkI → Prop
 | _, [] => False
 | [], _ :: _ => True
 |x :: A, y :: B => elP x y ∨ (x.1 = y.1 ∧ x.2.1 = y.2.1) ∧ lxP A B
instance lxP.dec : ∀ A B, Decidable (lxP A B)
 | [], [] => inferInstanceAs (Decidable False)
 | _ :: _, [] => inferInstanceAs (Decidable False)
 | [], _ :: _ => inferInstanceAs (Decidable True)
 |x :: A, y :: B => by
  have := lxP.dec A B
  exact inferInstanceAs (Decidable (_ ∨ _ ∧ _))
def erP (A B : List LkI) : Prop := A.length < B.length ∨ A.length = B.length ∧ lxP A B
instance (A B : List LkI) : Decidable (erP A B) := inferInstanceAs (Decidable (_ ∨ _))
theorem elP.trans {x y z : LkI} (h : elP x y) (k : elP y z) : elP x z := by unfold elP at *; omega
theorem lxP.trans : ∀ {A B D : List LkI}, lxP A B → lxP B D → lxP A D
 | _, [], _, h, _ => by simp [lxP] at h
 | _, _ :: _, [], _, k => by simp [lxP] at k
 | [], _ :: _, _ :: _, _, _ => by simp [lxP]
 |x :: A, y :: B, z :: D, h, k => by
  rw [lxP] at h k ⊢
  rcases h with h | ⟨h1, h2⟩
  ·rcases k with k | ⟨k1, k2⟩
   ·exact .inl (h.trans k)
   ·exact .inl (by unfold elP at *; omega)
  ·rcases k with k | ⟨k1, k2⟩
   ·exact .inl (by unfold elP at *; omega)
   ·exact .inr ⟨by omega, lxP.trans h2 k2⟩
theorem lxP.irr : ∀ {A : List LkI}, ¬ lxP A A
 | [], h => by simp [lxP] at h
 |x :: A, h => by
  rw [lxP] at h
  rcases h with h | h
  ·unfold elP at h; omega
  ·exact lxP.irr h.2
theorem lxP.tot : ∀ {A B : List LkI}, ¬ lxP A B → ¬ lxP B A → zr A = zr B
 | [], [], _, _ => rfl
 | [], _ :: _, h, _ => absurd (by simp [lxP]) h
 | _ :: _, [], _, k => absurd (by simp [lxP]) k
 |x :: A, y :: B, h, k => by
  rw [lxP] at h k
  have h1 : ¬ elP x y := fun z => h (.inl z)
  have k1 : ¬ elP y x := fun z => k (.inl z)
  have e : x.1 = y.1 ∧ x.2.1 = y.2.1 := by unfold elP at *; omega
  have := lxP.tot (A := A) (B := B) (fun z => h (.inr ⟨e, z⟩)) fun z => k (.inr ⟨⟨e.1.symm, e.2.symm⟩, z⟩)
  unfold zr at this ⊢
  rw [List.map_cons, List.map_cons, this, e.1, e.2]
theorem lxP_zr : ∀ (A B : List LkI), lxP (zr A) (zr B) ↔ lxP A B
 | [], [] => Iff.rfl
 | [], _ :: _ => Iff.rfl
 | _ :: _, [] => Iff.rfl
 |x :: A, y :: B => by
  have := lxP_zr A B
  unfold zr at this ⊢
  rw [List.map_cons, List.map_cons, lxP, lxP, this]
  exact Iff.rfl
theorem erP_zr (A B : List LkI) : erP (zr A) (zr B) ↔ erP A B := by
 unfold erP
 rw [zr_len, zr_len, lxP_zr]
theorem erP.trans {A B D : List LkI} (h : erP A B) (k : erP B D) : erP A D := by
 rcases h with h | ⟨h1, h2⟩
 ·rcases k with k | ⟨k1, _⟩
  ·exact .inl (by omega)
  ·exact .inl (by omega)
 ·rcases k with k | ⟨k1, k2⟩
  ·exact .inl (by omega)
  ·exact .inr ⟨by omega, h2.trans k2⟩
theorem erP.irr {A : List LkI} : ¬ erP A A := fun h => by
 rcases h with h | h
 ·omega
 ·exact h.2.irr
theorem erP.tot {A B : List LkI} (h : ¬ erP A B) (k : ¬ erP B A) : zr A = zr B := by
 have e : A.length = B.length := by
  have h1 : ¬ A.length < B.length := fun z => h (.inl z)
  have k1 : ¬ B.length < A.length := fun z => k (.inl z)
  omega
 exact lxP.tot (fun z => h (.inr ⟨e, z⟩)) fun z => k (.inr ⟨e.symm, z⟩)

def bsE : List LkI → List (List LkI) → List LkI
 |x, [] => x
 |x, y :: r => bsE (if erP y x then y else x) r
theorem bsE_spec : ∀ (r : List (List LkI)) (x : List LkI), (bsE x r = x ∨ bsE x r ∈ r) ∧ ∀ z, z = x ∨ z ∈ r → ¬ erP z (bsE x r)
 | [], x => ⟨.inl rfl, fun z hz => by
  rcases hz with rfl | hz
  ·exact erP.irr
  ·cases hz⟩
 |y :: r, x => by
  have ih := bsE_spec r (if erP y x then y else x)
  rw [bsE]
  refine ⟨?_, fun z hz => ?_⟩
  ·rcases ih.1 with e | e
   ·rw [e]
    split
    ·exact .inr (List.mem_cons_self ..)
    ·exact .inl rfl
   ·exact .inr (List.mem_cons_of_mem _ e)
  ·by_cases h : erP y x
   ·rw [if_pos h] at ih ⊢
    rcases hz with rfl | hz
    ·exact fun k => ih.2 y (.inl rfl) (h.trans k)
    ·rcases List.mem_cons.1 hz with rfl | hz
     ·exact ih.2 _ (.inl rfl)
     ·exact ih.2 z (.inr hz)
   ·rw [if_neg h] at ih ⊢
    rcases hz with rfl | hz
    ·exact ih.2 _ (.inl rfl)
    ·rcases List.mem_cons.1 hz with rfl | hz
     ·intro k
      rcases ih.1 with e | e
      ·rw [e] at k; exact h k
      ·by_cases k2 : erP z (bsE x r)
       ·have hx := ih.2 x (.inl rfl)
        by_cases k3 : erP x z
        ·exact hx (k3.trans k)
        ·have e3 := erP.tot h k3
         rw [← erP_zr, e3, erP_zr] at k
         exact hx k
       ·exact k2 k
     ·exact ih.2 z (.inr hz)

def sb : Nat → List LkI → List LkI
 | _, [] => []
 |s, c :: r => (if s % 2 = 1 then [c] else []) ++ sb (s / 2) r
theorem sb_sub : ∀ (C : List LkI) (s : Nat), (sb s C).Sublist C
 | [], _ => List.Sublist.refl _
 |c :: r, s => by
  rw [sb]
  split
  ·exact (sb_sub r (s / 2)).cons_cons c
  ·exact (sb_sub r (s / 2)).cons c
theorem sb_all {C E : List LkI} (h : E.Sublist C) : ∃ s, s < 2 ^ C.length ∧ sb s C = E := by
 induction h with
 |slnil => exact ⟨0, Nat.one_pos, rfl⟩
 |cons c _ ih =>
  obtain ⟨s, h1, h2⟩ := ih
  refine ⟨2 * s, by rw [List.length_cons, Nat.pow_succ]; omega, ?_⟩
  rw [sb, if_neg (by omega), show 2 * s / 2 = s by omega, h2]; rfl
 |cons_cons c _ ih =>
  obtain ⟨s, h1, h2⟩ := ih
  refine ⟨2 * s + 1, by rw [List.length_cons, Nat.pow_succ]; omega, ?_⟩
  rw [sb, if_pos (by omega), show (2 * s + 1) / 2 = s by omega, h2]; rfl
theorem sb_drop (C : List LkI) (s : Nat) {i : Nat} (hi : i < C.length) : sb (s >>> i) (C.drop i) = (if (s >>> i) % 2 = 1 then [gL C i] else []) ++ sb (s >>> (i + 1)) (C.drop (i + 1)) := by
 rw [drop_gL C hi, sb, Nat.shiftRight_succ]

def cnB (b : List Int) (f : Nat) : Nat → List LkI
 | 0 => []
 |j + 1 => cnB b f j ++ if 0 < b.getD f 0 ∧ b.getD j 0 < 0 then [(Int.ofNat f, Int.ofNat j, 0)] else []
def cnF (b : List Int) : Nat → List LkI
 | 0 => []
 |i + 1 => cnF b i ++ cnB b i b.length
abbrev cnL (b : List Int) : List LkI := cnF b b.length
theorem cnB_mem (b : List Int) (f : Nat) (e : LkI) : ∀ j, e ∈ cnB b f j ↔ ∃ t : Nat, t < j ∧ (0 < b.getD f 0 ∧ b.getD t 0 < 0) ∧ e = (Int.ofNat f, Int.ofNat t, 0)
 | 0 => ⟨fun h => (nomatch h), fun ⟨_, h, _⟩ => absurd h (Nat.not_lt_zero _)⟩
 |j + 1 => by
  rw [cnB, List.mem_append, cnB_mem b f e j]
  constructor
  ·rintro (⟨t, h1, h2⟩ | h)
   ·exact ⟨t, by omega, h2⟩
   ·split at h
    ·rename_i h2
     exact ⟨j, Nat.lt_succ_self j, h2, List.mem_singleton.1 h⟩
    ·cases h
  ·rintro ⟨t, h1, h2, h3⟩
   by_cases e1 : t = j
   ·subst e1
    rw [if_pos h2]
    exact .inr (List.mem_singleton.2 h3)
   ·exact .inl ⟨t, by omega, h2, h3⟩
theorem cnF_mem (b : List Int) (e : LkI) : ∀ i, e ∈ cnF b i ↔ ∃ f t : Nat, f < i ∧ t < b.length ∧ (0 < b.getD f 0 ∧ b.getD t 0 < 0) ∧ e = (Int.ofNat f, Int.ofNat t, 0)
 | 0 => ⟨fun h => (nomatch h), fun ⟨_, _, h, _⟩ => absurd h (Nat.not_lt_zero _)⟩
 |i + 1 => by
  rw [cnF, List.mem_append, cnF_mem b e i, cnB_mem]
  constructor
  ·rintro (⟨f, t, h1, h2, h3⟩ | ⟨t, h1, h2, h3⟩)
   ·exact ⟨f, t, by omega, h2, h3⟩
   ·exact ⟨i, t, Nat.lt_succ_self i, h1, h2, h3⟩
  ·rintro ⟨f, t, h1, h2, h3, h4⟩
   by_cases e1 : f = i
   ·subst e1
    exact .inr ⟨t, h2, h3, h4⟩
   ·exact .inl ⟨f, t, by omega, h2, h3, h4⟩
theorem cnB_ord (b : List Int) (f : Nat) : ∀ j, (cnB b f j).Pairwise elP
 | 0 => .nil
 |j + 1 => by
  rw [cnB]
  refine List.pairwise_append.2 ⟨cnB_ord b f j, ?_, fun x hx y hy => ?_⟩
  ·split
   ·exact List.pairwise_singleton ..
   ·exact .nil
  ·obtain ⟨t, h1, _, rfl⟩ := (cnB_mem b f x j).1 hx
   split at hy
   ·obtain rfl := List.mem_singleton.1 hy
    exact .inr ⟨rfl, Int.ofNat_lt.2 h1⟩
   ·cases hy
theorem cnF_ord (b : List Int) : ∀ i, (cnF b i).Pairwise elP
 | 0 => .nil
 |i + 1 => by
  rw [cnF]
  refine List.pairwise_append.2 ⟨cnF_ord b i, cnB_ord b i _, fun x hx y hy => ?_⟩
  obtain ⟨f, t, h1, _, _, rfl⟩ := (cnF_mem b x i).1 hx
  obtain ⟨t', _, _, rfl⟩ := (cnB_mem b i y _).1 hy
  exact .inl (Int.ofNat_lt.2 h1)
theorem cn_can {b : List Int} (hb : b.length ≤ 5) : CanP b (cnL b) := by
 refine ⟨hb, (cnF_ord b _).imp fun {x y} h e => by subst e; unfold elP at h; omega, fun e => (cnF_mem b e _).trans ?_⟩
 constructor
 ·rintro ⟨f, t, h1, h2, h3, h4⟩
  exact ⟨f, t, ⟨h1, h3.1⟩, ⟨h2, h3.2⟩, h4⟩
 ·rintro ⟨f, t, h1, h2, h3⟩
  exact ⟨f, t, h1.1, h2.1, ⟨h1.2, h2.2⟩, h3⟩

def BkS (b : List Int) (R : List LkI) : Prop := ∃ E, E.Sublist (cnL b) ∧ slv b E = some R ∧ ∀ E' X, E'.Sublist (cnL b) → slv b E' = some X → ¬ erP E' E
theorem sub_z {b : List Int} {E : List LkI} (h : E.Sublist (cnL b)) : ∀ i, i < E.length → (gL E i).2.2 = 0 := fun i hi => by
 obtain ⟨f, t, _, _, _, e⟩ := (cnF_mem b _ _).1 (h.mem (gL_mem' E hi))
 rw [e]
theorem sub_zr {b : List Int} {E : List LkI} (h : E.Sublist (cnL b)) : zr E = E := zr_ft (sub_z h) ⟨rfl, fun _ _ => ⟨rfl, rfl⟩⟩
theorem sub_r {b : List Int} {E : List LkI} (h : E.Sublist (cnL b)) : ∀ i, i < E.length → (gL E i).1 ≠ (gL E i).2.1 ∧ ∀ a, tch (gL E i) a → 0 ≤ a ∧ a < (b.length : Int) := fun i hi => by
 obtain ⟨f, t, h1, h2, h3, e⟩ := (cnF_mem b _ _).1 (h.mem (gL_mem' E hi))
 rw [e]
 refine ⟨fun z => ?_, fun a ta => ?_⟩
 ·have : f = t := Int.ofNat.inj z
  subst this; omega
 ·have i1 : Int.ofNat f = (f : Int) := rfl
  have i2 : Int.ofNat t = (t : Int) := rfl
  rcases ta with z | z
  ·rw [← show Int.ofNat f = a from z]; omega
  ·rw [← show Int.ofNat t = a from z]; omega
theorem slv_st {b : List Int} {E X : List LkI} (h : E.Sublist (cnL b)) (hs : slv b E = some X) : StL b (cnL b) X ∧ zr X = E := by
 obtain ⟨_, h2⟩ := slv_sol hs
 have e := zr_ft (sub_z h) h2.1
 refine ⟨⟨by rw [e]; exact h, fun x hx => ?_, h2.2.2⟩, e⟩
 obtain ⟨i, hi, rfl⟩ := mem_gL' hx
 exact h2.2.1 i (by rw [← h2.1.1]; exact hi)
theorem st_slv {b : List Int} {X : List LkI} (h : StL b (cnL b) X) (hf : FR (zr X)) : slv b (zr X) = some X := slv_some (sub_r h.1) hf h.sol
theorem BkS.uniq {b : List Int} {R R' : List LkI} (h : BkS b R) (h' : BkS b R') : R = R' := by
 obtain ⟨E, e1, e2, e3⟩ := h
 obtain ⟨E', f1, f2, f3⟩ := h'
 have := erP.tot (e3 E' R' f1 f2) (f3 E R e1 e2)
 rw [sub_zr e1, sub_zr f1] at this
 subst this
 rw [e2] at f2
 injection f2
theorem BkS.least {b : List Int} (hb : b.length ≤ 5) {R Z : List LkI} (h : BkS b R) (hZ : StL b (cnL b) Z) : ¬ erP Z R ∧ (Z.length = R.length → FR (zr Z)) := by
 obtain ⟨E, e1, e2, e3⟩ := h
 obtain ⟨X, x1, x2, x3, x4⟩ := StL.best (cn_can hb) _ Z (Nat.le_refl _) hZ
 obtain ⟨_, k2⟩ := slv_st e1 e2
 have hX := e3 _ _ x1.1 (st_slv x1 x2)
 rw [← k2, erP_zr] at hX
 by_cases hf : FR (zr Z)
 ·have := e3 _ _ hZ.1 (st_slv hZ hf)
  rw [← k2, erP_zr] at this
  exact ⟨this, fun _ => hf⟩
 ·have h4 := x4 hf
  have : ¬ X.length < R.length := fun z => hX (.inl z)
  refine ⟨fun z => ?_, fun z => by omega⟩
  rcases z with z | z
  ·omega
  ·have := z.1; omega
theorem BkS.st {b : List Int} {R : List LkI} (h : BkS b R) : StL b (cnL b) R := by
 obtain ⟨E, e1, e2, _⟩ := h
 exact (slv_st e1 e2).1
theorem BkS.same {b : List Int} (hb : b.length ≤ 5) {R Z : List LkI} (h : BkS b R) (hZ : StL b (cnL b) Z) (hn : ¬ erP R Z) : Z = R := by
 obtain ⟨h1, h2⟩ := h.least hb hZ
 have e := erP.tot h1 hn
 have hl : Z.length = R.length := by rw [← zr_len, e, zr_len]
 have s := st_slv hZ (h2 hl)
 obtain ⟨E, e1, e2, _⟩ := h
 rw [e, (slv_st e1 e2).2, e2] at s
 injection s with s
 exact s.symm
theorem bst_all {b : List Int} (hb : b.length ≤ 5) (hs : sumN b.length (fun a => b.getD a 0) = 0) {all : List (List LkI)} (h : all = (List.range (2 ^ (cnL b).length)).filterMap fun s => slv b (sb s (cnL b))) : ∃ x r, all = x :: r ∧ BkS b (bsE x r) := by
 have hm : ∀ X, X ∈ all ↔ ∃ E, E.Sublist (cnL b) ∧ slv b E = some X := fun X => by
  rw [h, List.mem_filterMap]
  constructor
  ·rintro ⟨s, _, h2⟩
   exact ⟨_, sb_sub _ s, h2⟩
  ·rintro ⟨E, h1, h2⟩
   obtain ⟨s, k1, k2⟩ := sb_all h1
   exact ⟨s, List.mem_range.2 k1, by rw [k2]; exact h2⟩
 obtain ⟨Z, hZ⟩ := StL.ex (cn_can hb) hs
 obtain ⟨X, x1, x2, _⟩ := StL.best (cn_can hb) _ Z (Nat.le_refl _) hZ
 have hX := (hm X).2 ⟨_, x1.1, st_slv x1 x2⟩
 clear h
 cases all with
 |nil => cases hX
 |cons x r =>
  refine ⟨x, r, rfl, ?_⟩
  have sp := bsE_spec r x
  obtain ⟨E, e1, e2⟩ := (hm (bsE x r)).1 (List.mem_cons.2 sp.1)
  refine ⟨E, e1, e2, fun E' X' f1 f2 => ?_⟩
  have := sp.2 X' (List.mem_cons.1 ((hm X').2 ⟨E', f1, f2⟩))
  rw [← (slv_st e1 e2).2, ← (slv_st f1 f2).2, erP_zr]
  exact this
end
end Go.Abs.Seat

/-! A piece with a change. -/
namespace Go.Abs.Seat
noncomputable section
open Go Go.Abs Go.Proofs.Tryz
set_option maxRecDepth 100000
set_option maxHeartbeats 40000000
attribute [local irreducible] IntKind.wrap pEq

def chkT (t : Tr AV) (xs : List AV) (n : Nat) : Prop := @Nat.rec (fun _ => Prop) True (fun j ih => t.get j = xs[j]? ∧ ih) n
theorem chkT.at {t : Tr AV} {xs : List AV} : ∀ {n : Nat}, chkT t xs n → ∀ j, j < n → t.get j = xs[j]?
 |n + 1, h, j, hj => by
  by_cases e : j = n
  ·subst e; exact h.1
  ·exact chkT.at h.2 j (by omega)
def chN (N : List Lk) (i a b : Nat) : List Lk := N.set i ((gN N i).1, a, b)
theorem changed_pure {N : List Lk} (h5 : N.length ≤ 5) (M : List Int) {i : Nat} (hi : i < N.length) (a b : Nat) : Pure prog 105 [.agg [nkA N, nl M], .agg [nv i, nv a, nv b]] (.agg [nkA (chN N i a b), nl M]) := by
 have lM := ivs_no M
 have lC := lks_no (cL (chN N i a b))
 rcases N with _ | ⟨x0, _ | ⟨x1, _ | ⟨x2, _ | ⟨x3, _ | ⟨x4, _ | ⟨x5, r⟩⟩⟩⟩⟩⟩
 ·exact absurd hi (Nat.not_lt_zero _)
 ·have lN := lks_no (cL [x0])
  obtain rfl : i = 0 := by simp only [List.length_cons, List.length_nil] at hi; omega
  refine pure_symF (hEM muLinks) rfl (by repeat' (first | exact trivial | assumption | exact flat_no _ | exact (fun _ h => nomatch h) | apply And.intro)) (by repeat' (first | exact trivial | assumption | exact flat_no _ | exact (fun _ h => nomatch h) | apply And.intro)) fun S q pc hS hq hC hE => ?_
  conv => whnf
  refine sym_call hC ?_
  conv => whnf
  refine sym_inline hE hS ?_
  conv => whnf
  refine sym_eq hq false rfl ?_
  conv => whnf
  exact ⟨_, rfl, FzV.agg ⟨FzV.slcN rfl rfl (chkT.at (by repeat' (first | exact trivial | kernel_rfl | apply And.intro))) lC, FzV.no ⟨lM, fun _ e => nomatch e⟩, trivial⟩⟩
 ·have lN := lks_no (cL [x0, x1])
  have hc : i = 0 ∨ i = 1 := by simp only [List.length_cons, List.length_nil] at hi; omega
  rcases hc with rfl | rfl
  all_goals
   refine pure_symF (hEM muLinks) rfl (by repeat' (first | exact trivial | assumption | exact flat_no _ | exact (fun _ h => nomatch h) | apply And.intro)) (by repeat' (first | exact trivial | assumption | exact flat_no _ | exact (fun _ h => nomatch h) | apply And.intro)) fun S q pc hS hq hC hE => ?_
   conv => whnf
   refine sym_call hC ?_
   conv => whnf
   refine sym_inline hE hS ?_
   conv => whnf
   refine sym_eq hq false rfl ?_
   conv => whnf
   exact ⟨_, rfl, FzV.agg ⟨FzV.slcN rfl rfl (chkT.at (by repeat' (first | exact trivial | kernel_rfl | apply And.intro))) lC, FzV.no ⟨lM, fun _ e => nomatch e⟩, trivial⟩⟩
 ·have lN := lks_no (cL [x0, x1, x2])
  have hc : i = 0 ∨ i = 1 ∨ i = 2 := by simp only [List.length_cons, List.length_nil] at hi; omega
  rcases hc with rfl | rfl | rfl
  all_goals
   refine pure_symF (hEM muLinks) rfl (by repeat' (first | exact trivial | assumption | exact flat_no _ | exact (fun _ h => nomatch h) | apply And.intro)) (by repeat' (first | exact trivial | assumption | exact flat_no _ | exact (fun _ h => nomatch h) | apply And.intro)) fun S q pc hS hq hC hE => ?_
   conv => whnf
   refine sym_call hC ?_
   conv => whnf
   refine sym_inline hE hS ?_
   conv => whnf
   refine sym_eq hq false rfl ?_
   conv => whnf
   exact ⟨_, rfl, FzV.agg ⟨FzV.slcN rfl rfl (chkT.at (by repeat' (first | exact trivial | kernel_rfl | apply And.intro))) lC, FzV.no ⟨lM, fun _ e => nomatch e⟩, trivial⟩⟩
 ·have lN := lks_no (cL [x0, x1, x2, x3])
  have hc : i = 0 ∨ i = 1 ∨ i = 2 ∨ i = 3 := by simp only [List.length_cons, List.length_nil] at hi; omega
  rcases hc with rfl | rfl | rfl | rfl
  all_goals
   refine pure_symF (hEM muLinks) rfl (by repeat' (first | exact trivial | assumption | exact flat_no _ | exact (fun _ h => nomatch h) | apply And.intro)) (by repeat' (first | exact trivial | assumption | exact flat_no _ | exact (fun _ h => nomatch h) | apply And.intro)) fun S q pc hS hq hC hE => ?_
   conv => whnf
   refine sym_call hC ?_
   conv => whnf
   refine sym_inline hE hS ?_
   conv => whnf
   refine sym_eq hq false rfl ?_
   conv => whnf
   exact ⟨_, rfl, FzV.agg ⟨FzV.slcN rfl rfl (chkT.at (by repeat' (first | exact trivial | kernel_rfl | apply And.intro))) lC, FzV.no ⟨lM, fun _ e => nomatch e⟩, trivial⟩⟩
 ·have lN := lks_no (cL [x0, x1, x2, x3, x4])
  have hc : i = 0 ∨ i = 1 ∨ i = 2 ∨ i = 3 ∨ i = 4 := by simp only [List.length_cons, List.length_nil] at hi; omega
  rcases hc with rfl | rfl | rfl | rfl | rfl
  all_goals
   refine pure_symF (hEM muLinks) rfl (by repeat' (first | exact trivial | assumption | exact flat_no _ | exact (fun _ h => nomatch h) | apply And.intro)) (by repeat' (first | exact trivial | assumption | exact flat_no _ | exact (fun _ h => nomatch h) | apply And.intro)) fun S q pc hS hq hC hE => ?_
   conv => whnf
   refine sym_call hC ?_
   conv => whnf
   refine sym_inline hE hS ?_
   conv => whnf
   refine sym_eq hq false rfl ?_
   conv => whnf
   exact ⟨_, rfl, FzV.agg ⟨FzV.slcN rfl rfl (chkT.at (by repeat' (first | exact trivial | kernel_rfl | apply And.intro))) lC, FzV.no ⟨lM, fun _ e => nomatch e⟩, trivial⟩⟩
 ·simp only [List.length_cons] at h5
  omega
end
end Go.Abs.Seat
