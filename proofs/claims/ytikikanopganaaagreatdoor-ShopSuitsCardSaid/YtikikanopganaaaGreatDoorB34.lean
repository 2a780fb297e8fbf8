/-
  Changes that somebody proposes.
-/
import Derived.Test.YtikikanopganaaaGreatDoorU17
/-! Changes that somebody proposes. -/
namespace Go.Abs.Seat
noncomputable section
open Go Go.Abs Go.Proofs.Tryz
set_option maxRecDepth 100000
set_option maxHeartbeats 40000000
attribute [local irreducible] IntKind.wrap pEq

def cgAt (N : List Lk) (lo hi : Int) (L : List LkI) (j : Nat) : Prop := cgOk N (gL L j).1 (gL L j).2.1 (gL L j).2.2 ∧ (lo ≤ (gL L j).2.1 ∧ (gL L j).2.1 ≤ hi) ∧ (lo ≤ (gL L j).2.2 ∧ (gL L j).2.2 ≤ hi) ∧ (0 < j → (gL L (j - 1)).1 < (gL L j).1)
def csOk (N : List Lk) (lo hi : Int) (L : List LkI) : Prop := (∀ j, j < L.length → cgAt N lo hi L j) ∧ L.length ≤ 2
instance (N : List Lk) (lo hi : Int) (L : List LkI) : Decidable (csOk N lo hi L) := Classical.propDecidable _
theorem wkL {n : Nat} {i : Nat} (h : i < n) (h5 : n ≤ 100) : IntKind.i64.wrap (Int.ofNat (i + 1) - 1) = Int.ofNat i := wrapP (by omega)
theorem lchanges_pure {N : List Lk} {H : List Nat} (h : pcN N H) (lo hi : Int) {x : AV} {L : List LkI} (hx : LL x L) (h4 : L.length ≤ 4) : Pure prog 52 [.agg [nkA N, nl (zl H)], iv lo, iv hi, x] (.bool (decide (csOk N lo hi L))) := by
 have lN := lks_no (cL N)
 have lM := ivs_no (zl H)
 have lL := lks_no L
 rcases hx with ⟨rfl, rfl⟩ | rfl
 ·rw [decide_eq_true (show csOk N lo hi [] from ⟨fun j hj => absurd hj (Nat.not_lt_zero _), by decide⟩)]
  refine pure_sym hE rfl (by repeat' (first | exact trivial | assumption | exact flat_no _ | exact (fun _ h => nomatch h) | apply And.intro)) (by repeat' (first | exact trivial | assumption | exact flat_no _ | exact (fun _ h => nomatch h) | apply And.intro)) fun S q pc hS hq hC hE => ?_
  conv => whnf
  refine sym_unroll hE hS ?_
  conv => whnf
  exact ⟨_, rfl, Wk.refl _⟩
 ·refine pure_sym hE rfl (by repeat' (first | exact trivial | assumption | exact flat_no _ | exact (fun _ h => nomatch h) | apply And.intro)) (by repeat' (first | exact trivial | assumption | exact flat_no _ | exact (fun _ h => nomatch h) | apply And.intro)) fun S q pc hS hq hC hE => ?_
  conv => whnf
  refine sym_loopG hE hS (A := Nat) [1, 2, 3, 4] (fun i => [(9, nv i)]) (fun _ => []) (fun _ => []) (fun i => i ≤ L.length ∧ ∀ j, j < i → cgAt N lo hi L j) (fun i => L.length - i) 0 (Nat.le_of_ble_eq_true rfl) rfl (by refine ⟨rfl, rfl, rfl, rfl, rfl, rfl, 1, rfl, ?_, ?_⟩ <;> repeat' (first | exact trivial | exact rfl | exact ⟨_, rfl, WkV.refl _⟩ | exact ⟨_, rfl, WkV.own _ _ _⟩ | exact Nat.zero_le _ | exact bdl_no lN | exact bdl_no lM | exact bdl_no lL | exact Nat.le_of_ble_eq_true rfl | exact bdl_no (by assumption) | exact bdl_no (flat_no _) | exact bdl_no (ivs_no _) | exact bdl_no (svs_no _) | exact Nat.max_le.2 ⟨Nat.le_of_ble_eq_true rfl, bdl_no (ivs_no _)⟩ | exact Nat.max_le.2 ⟨Nat.le_of_ble_eq_true rfl, bdl_no (svs_no _)⟩ | apply And.intro)) ⟨Nat.zero_le _, fun _ hj => absurd hj (Nat.not_lt_zero _)⟩ ?_
  intro i ⟨hi0, hb⟩ Q hQ
  obtain rfl : Q = 1 := hQ
  conv => whnf
  by_cases hi2 : i < L.length
  ·have hi1 : IntKind.i64.wrap (Int.ofNat i + 1) = Int.ofNat (i + 1) := wrapN (m := i + 1) (by omega)
   have t1 := tak_lk L hi2
   have hno : ¬ cgAt N lo hi L i → decide (csOk N lo hi L) = false := fun k => decide_eq_false fun z => k (z.1 i hi2)
   have pC := rChange_pure h (gL L i).1 (gL L i).2.1 (gL L i).2.2
   unfold cgAt at hno
   by_cases q1 : cgOk N (gL L i).1 (gL L i).2.1 (gL L i).2.2
   ·have c1 : (!decide (cgOk N (gL L i).1 (gL L i).2.1 (gL L i).2.2)) = false := nt_t (decide_eq_true q1)
    by_cases q2 : lo ≤ (gL L i).2.1
    ·have c2 : decide ((gL L i).2.1 < lo) = false := decide_eq_false (by omega)
     by_cases q3 : (gL L i).2.1 ≤ hi
     ·have c3 : decide ((gL L i).2.1 > hi) = false := decide_eq_false (by omega)
      by_cases q4 : lo ≤ (gL L i).2.2
      ·have c4 : decide ((gL L i).2.2 < lo) = false := decide_eq_false (by omega)
       by_cases q5 : (gL L i).2.2 ≤ hi
       ·have c5 : decide ((gL L i).2.2 > hi) = false := decide_eq_false (by omega)
        cases i with
        |zero =>
         refine bool_true (ltN_t hi2) ?_
         conv => whnf
         repeat ((first
          |refine plan_as (takP t1) ?_
          |refine ko_sT c1 ?_
          |refine ko_rF c1 ?_
          |refine plan_as (pick_f c1) ?_
          |refine bool_false c1 ?_
          |refine ko_sT c2 ?_
          |refine ko_rF c2 ?_
          |refine plan_as (pick_f c2) ?_
          |refine bool_false c2 ?_
          |refine ko_sT c3 ?_
          |refine ko_rF c3 ?_
          |refine plan_as (pick_f c3) ?_
          |refine bool_false c3 ?_
          |refine ko_sT c4 ?_
          |refine ko_rF c4 ?_
          |refine plan_as (pick_f c4) ?_
          |refine bool_false c4 ?_
          |refine ko_sT c5 ?_
          |refine ko_rF c5 ?_
          |refine plan_as (pick_f c5) ?_
          |refine bool_false c5 ?_
          |refine ko_rT (gff c1) ?_
          |refine ko_sF (gff c1) ?_
          |refine plan_as (pick_t (gff c1)) ?_
          |refine bool_true (gff c1) ?_
          |refine ko_rT (gff c2) ?_
          |refine ko_sF (gff c2) ?_
          |refine plan_as (pick_t (gff c2)) ?_
          |refine bool_true (gff c2) ?_
          |refine ko_rT (gff c3) ?_
          |refine ko_sF (gff c3) ?_
          |refine plan_as (pick_t (gff c3)) ?_
          |refine bool_true (gff c3) ?_
          |refine ko_rT (gff c4) ?_
          |refine ko_sF (gff c4) ?_
          |refine plan_as (pick_t (gff c4)) ?_
          |refine bool_true (gff c4) ?_
          |refine ko_rT (gff c5) ?_
          |refine ko_sF (gff c5) ?_
          |refine plan_as (pick_t (gff c5)) ?_
          |refine bool_true (gff c5) ?_
          |refine ko_rT (inR_t hi2) ?_
          |refine ko_sF (inR_t hi2) ?_
          |refine plan_as (pick_t (inR_t hi2)) ?_
          |refine bool_true (inR_t hi2) ?_
          |refine sym_pure hC (pC) ?_
          |refine sym_drawn hS (by kernel_rfl) ?_); conv => whnf)
         exact ⟨0 + 1, ⟨hi2, fun j hj => by
          obtain rfl : j = 0 := by omega
          exact ⟨q1, ⟨q2, q3⟩, ⟨q4, q5⟩, fun z => absurd z (Nat.lt_irrefl _)⟩⟩, by omega, Nat.le_refl _, (by refine ⟨rfl, rfl, rfl, rfl, rfl, rfl, 1, rfl, ?_, ?_⟩ <;> repeat' (first | exact trivial | exact rfl | exact ⟨_, rfl, WkV.refl _⟩ | exact ⟨_, rfl, WkV.own _ _ _⟩ | exact Nat.zero_le _ | exact ⟨_, rfl, WkV.int hi1⟩ | exact bdl_no lN | exact bdl_no lM | exact bdl_no lL | exact Nat.le_of_ble_eq_true rfl | exact bdl_no (by assumption) | exact bdl_no (flat_no _) | exact bdl_no (ivs_no _) | exact bdl_no (svs_no _) | exact Nat.max_le.2 ⟨Nat.le_of_ble_eq_true rfl, bdl_no (ivs_no _)⟩ | exact Nat.max_le.2 ⟨Nat.le_of_ble_eq_true rfl, bdl_no (svs_no _)⟩ | apply And.intro))⟩
        |succ m =>
         have c6 : decide (Int.ofNat (m + 1) > 0) = true := decide_eq_true (by show (0 : Int) < ((m + 1 : Nat) : Int); omega)
         have wr : inR (IntKind.i64.wrap (Int.ofNat (m + 1) - 1)) L.length = true := by rw [wkL (n := L.length) (i := m) (by omega) (by omega)]; exact inR_t (by omega)
         have nw : nth (lks L) ((IntKind.i64.wrap (Int.ofNat (m + 1) - 1)).toNat * 3 + 0) = some (iv (gL L m).1) := by rw [wkL (n := L.length) (i := m) (by omega) (by omega)]; exact nth_lks L m (by omega)
         by_cases q6 : (gL L m).1 < (gL L (m + 1)).1
         ·have c7 : decide ((gL L (m + 1)).1 ≤ (gL L m).1) = false := decide_eq_false (by omega)
          refine bool_true (ltN_t hi2) ?_
          conv => whnf
          repeat ((first
           |refine plan_as (takP t1) ?_
           |refine plan_as (nthP nw) ?_
           |refine ko_sT c1 ?_
           |refine ko_rF c1 ?_
           |refine plan_as (pick_f c1) ?_
           |refine bool_false c1 ?_
           |refine ko_sT c2 ?_
           |refine ko_rF c2 ?_
           |refine plan_as (pick_f c2) ?_
           |refine bool_false c2 ?_
           |refine ko_sT c3 ?_
           |refine ko_rF c3 ?_
           |refine plan_as (pick_f c3) ?_
           |refine bool_false c3 ?_
           |refine ko_sT c4 ?_
           |refine ko_rF c4 ?_
           |refine plan_as (pick_f c4) ?_
           |refine bool_false c4 ?_
           |refine ko_sT c5 ?_
           |refine ko_rF c5 ?_
           |refine plan_as (pick_f c5) ?_
           |refine bool_false c5 ?_
           |refine ko_rT c6 ?_
           |refine ko_sF c6 ?_
           |refine plan_as (pick_t c6) ?_
           |refine bool_true c6 ?_
           |refine ko_sT c7 ?_
           |refine ko_rF c7 ?_
           |refine plan_as (pick_f c7) ?_
           |refine bool_false c7 ?_
           |refine ko_rT wr ?_
           |refine ko_sF wr ?_
           |refine plan_as (pick_t wr) ?_
           |refine bool_true wr ?_
           |refine ko_rT (gff c1) ?_
           |refine ko_sF (gff c1) ?_
           |refine plan_as (pick_t (gff c1)) ?_
           |refine bool_true (gff c1) ?_
           |refine ko_rT (gff c2) ?_
           |refine ko_sF (gff c2) ?_
           |refine plan_as (pick_t (gff c2)) ?_
           |refine bool_true (gff c2) ?_
           |refine ko_rT (gff c3) ?_
           |refine ko_sF (gff c3) ?_
           |refine plan_as (pick_t (gff c3)) ?_
           |refine bool_true (gff c3) ?_
           |refine ko_rT (gff c4) ?_
           |refine ko_sF (gff c4) ?_
           |refine plan_as (pick_t (gff c4)) ?_
           |refine bool_true (gff c4) ?_
           |refine ko_rT (gff c5) ?_
           |refine ko_sF (gff c5) ?_
           |refine plan_as (pick_t (gff c5)) ?_
           |refine bool_true (gff c5) ?_
           |refine ko_rT (gd_tt c6) ?_
           |refine ko_sF (gd_tt c6) ?_
           |refine plan_as (pick_t (gd_tt c6)) ?_
           |refine bool_true (gd_tt c6) ?_
           |refine ko_rT (inR_t hi2) ?_
           |refine ko_sF (inR_t hi2) ?_
           |refine plan_as (pick_t (inR_t hi2)) ?_
           |refine bool_true (inR_t hi2) ?_
           |refine sym_pure hC (pC) ?_
           |refine sym_drawn hS (by kernel_rfl) ?_); conv => whnf)
          exact ⟨m + 1 + 1, ⟨hi2, fun j hj => by
           by_cases e : j = m + 1
           ·subst e; exact ⟨q1, ⟨q2, q3⟩, ⟨q4, q5⟩, fun _ => q6⟩
           ·exact hb j (by omega)⟩, by omega, Nat.le_refl _, (by refine ⟨rfl, rfl, rfl, rfl, rfl, rfl, 1, rfl, ?_, ?_⟩ <;> repeat' (first | exact trivial | exact rfl | exact ⟨_, rfl, WkV.refl _⟩ | exact ⟨_, rfl, WkV.own _ _ _⟩ | exact Nat.zero_le _ | exact ⟨_, rfl, WkV.int hi1⟩ | exact bdl_no lN | exact bdl_no lM | exact bdl_no lL | exact Nat.le_of_ble_eq_true rfl | exact bdl_no (by assumption) | exact bdl_no (flat_no _) | exact bdl_no (ivs_no _) | exact bdl_no (svs_no _) | exact Nat.max_le.2 ⟨Nat.le_of_ble_eq_true rfl, bdl_no (ivs_no _)⟩ | exact Nat.max_le.2 ⟨Nat.le_of_ble_eq_true rfl, bdl_no (svs_no _)⟩ | apply And.intro))⟩
         ·have c7 : decide ((gL L (m + 1)).1 ≤ (gL L m).1) = true := decide_eq_true (by omega)
          rw [hno fun z => q6 (z.2.2.2 (Nat.succ_pos m))]
          refine bool_true (ltN_t hi2) ?_
          conv => whnf
          repeat ((first
           |refine plan_as (takP t1) ?_
           |refine plan_as (nthP nw) ?_
           |refine ko_sT c1 ?_
           |refine ko_rF c1 ?_
           |refine plan_as (pick_f c1) ?_
           |refine bool_false c1 ?_
           |refine ko_sT c2 ?_
           |refine ko_rF c2 ?_
           |refine plan_as (pick_f c2) ?_
           |refine bool_false c2 ?_
           |refine ko_sT c3 ?_
           |refine ko_rF c3 ?_
           |refine plan_as (pick_f c3) ?_
           |refine bool_false c3 ?_
           |refine ko_sT c4 ?_
           |refine ko_rF c4 ?_
           |refine plan_as (pick_f c4) ?_
           |refine bool_false c4 ?_
           |refine ko_sT c5 ?_
           |refine ko_rF c5 ?_
           |refine plan_as (pick_f c5) ?_
           |refine bool_false c5 ?_
           |refine ko_rT c6 ?_
           |refine ko_sF c6 ?_
           |refine plan_as (pick_t c6) ?_
           |refine bool_true c6 ?_
           |refine ko_rT c7 ?_
           |refine ko_sF c7 ?_
           |refine plan_as (pick_t c7) ?_
           |refine bool_true c7 ?_
           |refine ko_rT wr ?_
           |refine ko_sF wr ?_
           |refine plan_as (pick_t wr) ?_
           |refine bool_true wr ?_
           |refine ko_rT (gff c1) ?_
           |refine ko_sF (gff c1) ?_
           |refine plan_as (pick_t (gff c1)) ?_
           |refine bool_true (gff c1) ?_
           |refine ko_rT (gff c2) ?_
           |refine ko_sF (gff c2) ?_
           |refine plan_as (pick_t (gff c2)) ?_
           |refine bool_true (gff c2) ?_
           |refine ko_rT (gff c3) ?_
           |refine ko_sF (gff c3) ?_
           |refine plan_as (pick_t (gff c3)) ?_
           |refine bool_true (gff c3) ?_
           |refine ko_rT (gff c4) ?_
           |refine ko_sF (gff c4) ?_
           |refine plan_as (pick_t (gff c4)) ?_
           |refine bool_true (gff c4) ?_
           |refine ko_rT (gff c5) ?_
           |refine ko_sF (gff c5) ?_
           |refine plan_as (pick_t (gff c5)) ?_
           |refine bool_true (gff c5) ?_
           |refine ko_rT (gd_tt c6) ?_
           |refine ko_sF (gd_tt c6) ?_
           |refine plan_as (pick_t (gd_tt c6)) ?_
           |refine bool_true (gd_tt c6) ?_
           |refine ko_rT (inR_t hi2) ?_
           |refine ko_sF (inR_t hi2) ?_
           |refine plan_as (pick_t (inR_t hi2)) ?_
           |refine bool_true (inR_t hi2) ?_
           |refine sym_pure hC (pC) ?_
           |refine sym_drawn hS (by kernel_rfl) ?_); conv => whnf)
          exact ⟨_, rfl, Wk.refl _⟩
       ·have c5 : decide ((gL L i).2.2 > hi) = true := decide_eq_true (by omega)
        rw [hno fun z => q5 z.2.2.1.2]
        refine bool_true (ltN_t hi2) ?_
        conv => whnf
        repeat ((first
         |refine plan_as (takP t1) ?_
         |refine ko_sT c1 ?_
         |refine ko_rF c1 ?_
         |refine plan_as (pick_f c1) ?_
         |refine bool_false c1 ?_
         |refine ko_sT c2 ?_
         |refine ko_rF c2 ?_
         |refine plan_as (pick_f c2) ?_
         |refine bool_false c2 ?_
         |refine ko_sT c3 ?_
         |refine ko_rF c3 ?_
         |refine plan_as (pick_f c3) ?_
         |refine bool_false c3 ?_
         |refine ko_sT c4 ?_
         |refine ko_rF c4 ?_
         |refine plan_as (pick_f c4) ?_
         |refine bool_false c4 ?_
         |refine ko_rT c5 ?_
         |refine ko_sF c5 ?_
         |refine plan_as (pick_t c5) ?_
         |refine bool_true c5 ?_
         |refine ko_rT (gff c1) ?_
         |refine ko_sF (gff c1) ?_
         |refine plan_as (pick_t (gff c1)) ?_
         |refine bool_true (gff c1) ?_
         |refine ko_rT (gff c2) ?_
         |refine ko_sF (gff c2) ?_
         |refine plan_as (pick_t (gff c2)) ?_
         |refine bool_true (gff c2) ?_
         |refine ko_rT (gff c3) ?_
         |refine ko_sF (gff c3) ?_
         |refine plan_as (pick_t (gff c3)) ?_
         |refine bool_true (gff c3) ?_
         |refine ko_rT (gff c4) ?_
         |refine ko_sF (gff c4) ?_
         |refine plan_as (pick_t (gff c4)) ?_
         |refine bool_true (gff c4) ?_
         |refine ko_sT (gft c5) ?_
         |refine ko_rF (gft c5) ?_
         |refine plan_as (pick_f (gft c5)) ?_
         |refine bool_false (gft c5) ?_
         |refine ko_rT (inR_t hi2) ?_
         |refine ko_sF (inR_t hi2) ?_
         |refine plan_as (pick_t (inR_t hi2)) ?_
         |refine bool_true (inR_t hi2) ?_
         |refine sym_pure hC (pC) ?_
         |refine sym_drawn hS (by kernel_rfl) ?_); conv => whnf)
        exact ⟨_, rfl, Wk.refl _⟩
      ·have c4 : decide ((gL L i).2.2 < lo) = true := decide_eq_true (by omega)
       rw [hno fun z => q4 z.2.2.1.1]
       refine bool_true (ltN_t hi2) ?_
       conv => whnf
       repeat ((first
        |refine plan_as (takP t1) ?_
        |refine ko_sT c1 ?_
        |refine ko_rF c1 ?_
        |refine plan_as (pick_f c1) ?_
        |refine bool_false c1 ?_
        |refine ko_sT c2 ?_
        |refine ko_rF c2 ?_
        |refine plan_as (pick_f c2) ?_
        |refine bool_false c2 ?_
        |refine ko_sT c3 ?_
        |refine ko_rF c3 ?_
        |refine plan_as (pick_f c3) ?_
        |refine bool_false c3 ?_
        |refine ko_rT c4 ?_
        |refine ko_sF c4 ?_
        |refine plan_as (pick_t c4) ?_
        |refine bool_true c4 ?_
        |refine ko_rT (gff c1) ?_
        |refine ko_sF (gff c1) ?_
        |refine plan_as (pick_t (gff c1)) ?_
        |refine bool_true (gff c1) ?_
        |refine ko_rT (gff c2) ?_
        |refine ko_sF (gff c2) ?_
        |refine plan_as (pick_t (gff c2)) ?_
        |refine bool_true (gff c2) ?_
        |refine ko_rT (gff c3) ?_
        |refine ko_sF (gff c3) ?_
        |refine plan_as (pick_t (gff c3)) ?_
        |refine bool_true (gff c3) ?_
        |refine ko_sT (gft c4) ?_
        |refine ko_rF (gft c4) ?_
        |refine plan_as (pick_f (gft c4)) ?_
        |refine bool_false (gft c4) ?_
        |refine ko_rT (inR_t hi2) ?_
        |refine ko_sF (inR_t hi2) ?_
        |refine plan_as (pick_t (inR_t hi2)) ?_
        |refine bool_true (inR_t hi2) ?_
        |refine sym_pure hC (pC) ?_
        |refine sym_drawn hS (by kernel_rfl) ?_); conv => whnf)
       exact ⟨_, rfl, Wk.refl _⟩
     ·have c3 : decide ((gL L i).2.1 > hi) = true := decide_eq_true (by omega)
      rw [hno fun z => q3 z.2.1.2]
      refine bool_true (ltN_t hi2) ?_
      conv => whnf
      repeat ((first
       |refine plan_as (takP t1) ?_
       |refine ko_sT c1 ?_
       |refine ko_rF c1 ?_
       |refine plan_as (pick_f c1) ?_
       |refine bool_false c1 ?_
       |refine ko_sT c2 ?_
       |refine ko_rF c2 ?_
       |refine plan_as (pick_f c2) ?_
       |refine bool_false c2 ?_
       |refine ko_rT c3 ?_
       |refine ko_sF c3 ?_
       |refine plan_as (pick_t c3) ?_
       |refine bool_true c3 ?_
       |refine ko_rT (gff c1) ?_
       |refine ko_sF (gff c1) ?_
       |refine plan_as (pick_t (gff c1)) ?_
       |refine bool_true (gff c1) ?_
       |refine ko_rT (gff c2) ?_
       |refine ko_sF (gff c2) ?_
       |refine plan_as (pick_t (gff c2)) ?_
       |refine bool_true (gff c2) ?_
       |refine ko_sT (gft c3) ?_
       |refine ko_rF (gft c3) ?_
       |refine plan_as (pick_f (gft c3)) ?_
       |refine bool_false (gft c3) ?_
       |refine ko_rT (inR_t hi2) ?_
       |refine ko_sF (inR_t hi2) ?_
       |refine plan_as (pick_t (inR_t hi2)) ?_
       |refine bool_true (inR_t hi2) ?_
       |refine sym_pure hC (pC) ?_
       |refine sym_drawn hS (by kernel_rfl) ?_); conv => whnf)
      exact ⟨_, rfl, Wk.refl _⟩
    ·have c2 : decide ((gL L i).2.1 < lo) = true := decide_eq_true (by omega)
     rw [hno fun z => q2 z.2.1.1]
     refine bool_true (ltN_t hi2) ?_
     conv => whnf
     repeat ((first
      |refine plan_as (takP t1) ?_
      |refine ko_sT c1 ?_
      |refine ko_rF c1 ?_
      |refine plan_as (pick_f c1) ?_
      |refine bool_false c1 ?_
      |refine ko_rT c2 ?_
      |refine ko_sF c2 ?_
      |refine plan_as (pick_t c2) ?_
      |refine bool_true c2 ?_
      |refine ko_rT (gff c1) ?_
      |refine ko_sF (gff c1) ?_
      |refine plan_as (pick_t (gff c1)) ?_
      |refine bool_true (gff c1) ?_
      |refine ko_sT (gft c2) ?_
      |refine ko_rF (gft c2) ?_
      |refine plan_as (pick_f (gft c2)) ?_
      |refine bool_false (gft c2) ?_
      |refine ko_rT (inR_t hi2) ?_
      |refine ko_sF (inR_t hi2) ?_
      |refine plan_as (pick_t (inR_t hi2)) ?_
      |refine bool_true (inR_t hi2) ?_
      |refine sym_pure hC (pC) ?_
      |refine sym_drawn hS (by kernel_rfl) ?_); conv => whnf)
     exact ⟨_, rfl, Wk.refl _⟩
   ·have c1 : (!decide (cgOk N (gL L i).1 (gL L i).2.1 (gL L i).2.2)) = true := nt_f (decide_eq_false q1)
    rw [hno fun z => q1 z.1]
    refine bool_true (ltN_t hi2) ?_
    conv => whnf
    repeat ((first
     |refine plan_as (takP t1) ?_
     |refine ko_rT c1 ?_
     |refine ko_sF c1 ?_
     |refine plan_as (pick_t c1) ?_
     |refine bool_true c1 ?_
     |refine ko_sT (gft c1) ?_
     |refine ko_rF (gft c1) ?_
     |refine plan_as (pick_f (gft c1)) ?_
     |refine bool_false (gft c1) ?_
     |refine ko_rT (inR_t hi2) ?_
     |refine ko_sF (inR_t hi2) ?_
     |refine plan_as (pick_t (inR_t hi2)) ?_
     |refine bool_true (inR_t hi2) ?_
     |refine sym_pure hC (pC) ?_
     |refine sym_drawn hS (by kernel_rfl) ?_); conv => whnf)
    exact ⟨_, rfl, Wk.refl _⟩
  ·refine bool_false (ltN_f hi2) ?_
   conv => whnf
   refine .inl ?_
   conv => whnf
   have e : decide (csOk N lo hi L) = decide ((L.length : Int) ≤ 2) := decide_eq_decide.2 ⟨fun z => by have := z.2; omega, fun z => ⟨fun j hj => hb j (by omega), by omega⟩⟩
   rw [e]
   exact ⟨_, rfl, Wk.refl _⟩
end
end Go.Abs.Seat
