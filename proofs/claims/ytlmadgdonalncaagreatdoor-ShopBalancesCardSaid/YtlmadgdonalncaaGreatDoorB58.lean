/-
  Books of accounts: what must be paid, as the document says.
-/
import Derived.Test.YtlmadgdonalncaaGreatDoorB54
/-! Books of accounts: what must be paid, as the document says. -/
namespace Go.Abs.Seat
noncomputable section
open Go Go.Abs Go.Proofs.Tryz
set_option maxRecDepth 100000
set_option maxHeartbeats 40000000
attribute [local irreducible] IntKind.wrap pEq
structure DInv (b : List Int) (E X : List LkI) (lf : List Int) (t1 t2 t3 : Tr AV) (o : Nat) : Prop where
 s : SInv b E X lf t1 t2 o
 c3 : ∀ j, t3.get j = if j < E.length then some (.bool (decide ((gL X j).2.2 ≠ 0))) else none
theorem DInv.bd {b : List Int} {E X : List LkI} {lf : List Int} {t1 t2 t3 : Tr AV} {o n : Nat} (h : DInv b E X lf t1 t2 t3 o) : BdT n t3 := bdT_get fun j a e => by
 rw [h.c3] at e
 split at e
 ·cases e; exact Nat.zero_le _
 ·cases e
theorem DInv.don {b : List Int} {E X : List LkI} {lf : List Int} {t1 t2 t3 : Tr AV} {o : Nat} (h : DInv b E X lf t1 t2 t3 o) {i : Nat} (hi : i < E.length) : t3.get (0 + i * 1) = some (.bool (decide ((gL X i).2.2 ≠ 0))) := by
 rw [show 0 + i * 1 = i by omega, h.c3, if_pos hi]
theorem DInv.pay {b : List Int} {E X : List LkI} {lf : List Int} {t1 t2 t3 : Tr AV} {o : Nat} (h : DInv b E X lf t1 t2 t3 o) {p : Nat} (hp : p < E.length) {y : LkI} (hy : y.2.2 ≠ 0) {lf' : List Int} {t1' t2' : Tr AV} {o' : Nat} (h' : SInv b E (X.set p y) lf' t1' t2' o') : DInv b E (X.set p y) lf' t1' t2' (tset (pathOf (0 + p * 1)) t3 (.bool true)) o' := by
 refine ⟨h', fun j => ?_⟩
 have hpX : p < X.length := by rw [h.s.inv.ft.1]; exact hp
 rw [tset_at (h.don hp), gL_set X y hpX, show 0 + p * 1 = p by omega]
 by_cases e : j = p
 ·rw [if_pos e, if_pos (by omega), if_pos e, decide_eq_true hy]
 ·rw [if_neg e, if_neg e, h.c3]
--STUB--
def muR : Option Tmp → TypeId → Bool := fun d t => match d with
 |some 18 => t == 24
 |some 20 => t == 22
 | _ => false
theorem rsettled_run {b : List Int} {E0 : List LkI} (hb : b.length ≤ 5) (hb2 : 2 ≤ b.length) (hk8 : E0.length ≤ 8) (hk1 : 1 ≤ E0.length) (hz : ∀ i, i < E0.length → (gL E0 i).2.2 = 0) (hr : ∀ i, i < E0.length → (gL E0 i).1 ≠ (gL E0 i).2.1 ∧ ∀ a, tch (gL E0 i) a → 0 ≤ a ∧ a < (b.length : Int)) (hbd : ∀ a, a < b.length → - 8000000 ≤ b.getD a 0 ∧ b.getD a 0 ≤ 8000000)
  (hbp : ∀ j k, j < E0.length → k < E0.length → (gL E0 j).1 ≠ (gL E0 k).2.1)
  {v : AV} (lv : Live noL v) (hbad : ¬ (FR E0 ∧ ∃ Y, SolL b E0 Y) → v = .tup [.nils, .bool false]) (hyes : ∀ Y, FR E0 → SolL b E0 Y → v = .tup [lkA Y, .bool true]) : Pure prog 69 [nl b, lkA E0] v := by
 have ll := ivs_no b
 have lL := lks_no E0
 have l1 := ivs_len b
 have l2 := lks_len E0
 obtain ⟨m, hm⟩ : ∃ m, b.length = m + 1 := ⟨b.length - 1, by omega⟩
 obtain ⟨k, hk⟩ : ∃ k, E0.length = k + 1 := ⟨E0.length - 1, by omega⟩
 refine pure_symF (hEM muR) rfl (by repeat' (first | exact trivial | assumption | exact flat_no _ | exact (fun _ h => nomatch h) | apply And.intro)) (by repeat' (first | exact trivial | assumption | exact flat_no _ | exact (fun _ h => nomatch h) | apply And.intro)) fun S q pc hS hq hC hE => ?_
 conv => whnf
 refine plan_as (pSrc_eq (e := 3) (ys := ivs b) (m := b.length) (own := .no) (l := ivs b) (by kernel_rfl) rfl (takeN_ivs _)) ?_
 rw [hm]
 conv => whnf
 refine bool_true (allCells_ivs b) ?_
 conv => whnf
 refine bool_true (decide_eq_true (show (m + 1) * 8 ≤ 140737488355328 by omega)) ?_
 conv => whnf
 refine bool_true (decide_eq_true (show m + 1 ≤ 9223372036854775807 by omega)) ?_
 conv => whnf
 refine newl_sym (l1.trans hm) ?_
 intro t1 ht1
 conv => whnf
 refine plan_as (pSrc_eq (e := 38) (ys := lks E0) (m := E0.length) (own := .no) (l := lks E0) (by kernel_rfl) rfl (takeN_lks _)) ?_
 rw [hk]
 conv => whnf
 refine bool_true (allCells_lks E0) ?_
 conv => whnf
 refine bool_true (decide_eq_true (show (k + 1) * 24 ≤ 140737488355328 by omega)) ?_
 conv => whnf
 refine bool_true (decide_eq_true (show k + 1 ≤ 9223372036854775807 by omega)) ?_
 conv => whnf
 refine newl_sym (l2.trans (congrArg (· * 3) hk)) ?_
 intro t2 ht2
 conv => whnf
 refine bool_true (decide_eq_true (Int.le_refl _)) ?_
 conv => whnf
 refine bool_true (decide_eq_true (show (E0.length : Int) ≤ 9223372036854775807 by omega)) ?_
 conv => whnf
 refine bool_true (decide_eq_true (show 1 * (E0.length : Int).toNat ≤ 2 * 140737488355328 by omega)) ?_
 conv => whnf
 refine nat_sym (show (E0.length : Int).toNat = k + 1 from hk) ?_
 refine fcH0_mk ?_
 refine rep_sym (show k + 1 + 1 < 2 ^ 64 by omega) ?_
 intro t3 ht3
 conv => whnf
 have hoc : oc E0 = k + 1 := by rw [oc_all hz, hk]
 have hD0 : DInv b E0 E0 b t1 t2 t3 (k + 1) := ⟨⟨Inv.init hz, ht1, ht2, hoc.symm, fun a ha => by have := hbd a ha; have := (bd8_le (o := k + 1)).1; omega⟩, fun j => by
  rw [ht3, show Nat.succ k = E0.length from hk.symm]
  by_cases e : j < E0.length
  ·rw [if_pos e, if_pos e, hz j e]; rfl
  ·rw [if_neg e, if_neg e]⟩
 refine sym_loopG hE hS (A := Nat × List LkI × List Int × Tr AV × Tr AV × Tr AV × Nat) [1, 6, 7, 8] (fun (r, _, _, _, _, _, _) => [(9, nv r)]) (fun (_, _, _, t1, t2, t3, _) => [(0, .cells t1 (m + 1) 3), (1, .cells t2 ((k + 1) * 3) 38), (2, .cells t3 (k + 1) 4)]) (fun _ => []) (fun (r, X, lf, t1, t2, t3, o) => (r ≤ E0.length ∧ (FR E0 → o ≤ E0.length - r)) ∧ DInv b E0 X lf t1 t2 t3 o) (fun (r, _, _, _, _, _, _) => E0.length - r) (0, E0, b, t1, t2, t3, k + 1) (Nat.le_of_ble_eq_true rfl) rfl (by refine ⟨rfl, rfl, rfl, rfl, rfl, rfl, 3, rfl, ?_, ?_⟩ <;> repeat' (first | exact trivial | exact rfl | exact ⟨_, rfl, WkV.refl _⟩ | exact ⟨_, rfl, WkV.own _ _ _⟩ | exact Nat.zero_le _ | exact bdT_ivs hD0.s.c1 | exact bdT_lks hD0.s.c2 | exact hD0.bd | exact Nat.le_of_ble_eq_true rfl | exact bdl_no (by assumption) | exact bdl_no (flat_no _) | exact bdl_no (ivs_no _) | exact bdl_no (svs_no _) | exact Nat.max_le.2 ⟨Nat.le_of_ble_eq_true rfl, bdl_no (ivs_no _)⟩ | exact Nat.max_le.2 ⟨Nat.le_of_ble_eq_true rfl, bdl_no (svs_no _)⟩ | apply And.intro)) ⟨⟨Nat.zero_le _, fun _ => by omega⟩, hD0⟩ ?_
 rintro ⟨r, X0, lf0, s1, s2, s3, o0⟩ ⟨⟨hr1, hr2⟩, hD⟩ K hK
 obtain rfl : K = 3 := hK
 conv => whnf
 by_cases hrk : r < E0.length
 ·refine bool_true (ltN_t hrk) ?_
  conv => whnf
  refine sym_loopG hE hS (A := Nat × List LkI × List Int × Tr AV × Tr AV × Tr AV × Nat) [1, 6, 7, 8, 9] (fun (a, _, _, _, _, _, _) => [(10, nv a)]) (fun (_, _, _, t1, t2, t3, _) => [(0, .cells t1 (m + 1) 3), (1, .cells t2 ((k + 1) * 3) 38), (2, .cells t3 (k + 1) 4)]) (fun _ => []) (fun (a, X, lf, t1, t2, t3, o) => (a ≤ m + 1 ∧ o ≤ o0 ∧ (o < o0 ∨ ∀ c, c < a → ∀ i, ¬ Leaf E0 (opn X) (Int.ofNat c) i)) ∧ DInv b E0 X lf t1 t2 t3 o) (fun (a, _, _, _, _, _, _) => m + 1 - a) (0, X0, lf0, s1, s2, s3, o0) (Nat.le_of_ble_eq_true rfl) rfl (by refine ⟨rfl, rfl, rfl, rfl, rfl, rfl, 3, rfl, ?_, ?_⟩ <;> repeat' (first | exact trivial | exact rfl | exact ⟨_, rfl, WkV.refl _⟩ | exact ⟨_, rfl, WkV.own _ _ _⟩ | exact Nat.zero_le _ | exact bdT_ivs hD.s.c1 | exact bdT_lks hD.s.c2 | exact hD.bd | exact Nat.le_of_ble_eq_true rfl | exact bdl_no (by assumption) | exact bdl_no (flat_no _) | exact bdl_no (ivs_no _) | exact bdl_no (svs_no _) | exact Nat.max_le.2 ⟨Nat.le_of_ble_eq_true rfl, bdl_no (ivs_no _)⟩ | exact Nat.max_le.2 ⟨Nat.le_of_ble_eq_true rfl, bdl_no (svs_no _)⟩ | apply And.intro)) ⟨⟨Nat.zero_le _, Nat.le_refl _, .inr fun _ h => absurd h (Nat.not_lt_zero _)⟩, hD⟩ ?_
  rintro ⟨a, X, lf, t1, t2, t3, o⟩ ⟨⟨ha, ho0, hpr⟩, hD⟩ K hK
  obtain rfl : K = 3 := hK
  conv => whnf
  by_cases ha2 : a < m + 1
  ·refine bool_true (ltN_t ha2) ?_
   conv => whnf
   refine sym_loopG hE hS (A := Nat × Int × Nat) [1, 6, 7, 8, 9, 10] (fun (i, at', many) => [(11, nv many), (12, iv at'), (13, nv i)]) (fun _ => []) (fun _ => []) (fun (i, at', many) => i ≤ E0.length ∧ LfI E0 X (Int.ofNat a) i at' many) (fun (i, _, _) => E0.length - i) (0, -1, 0) (Nat.le_of_ble_eq_true rfl) rfl (by refine ⟨rfl, rfl, rfl, rfl, rfl, rfl, 3, rfl, ?_, ?_⟩ <;> repeat' (first | exact trivial | exact rfl | exact ⟨_, rfl, WkV.refl _⟩ | exact ⟨_, rfl, WkV.own _ _ _⟩ | exact Nat.zero_le _ | exact bdT_ivs hD.s.c1 | exact bdT_lks hD.s.c2 | exact hD.bd | exact Nat.le_of_ble_eq_true rfl | exact bdl_no (by assumption) | exact bdl_no (flat_no _) | exact bdl_no (ivs_no _) | exact bdl_no (svs_no _) | exact Nat.max_le.2 ⟨Nat.le_of_ble_eq_true rfl, bdl_no (ivs_no _)⟩ | exact Nat.max_le.2 ⟨Nat.le_of_ble_eq_true rfl, bdl_no (svs_no _)⟩ | apply And.intro)) ⟨Nat.zero_le _, .init⟩ ?_
   rintro ⟨i, at', many⟩ ⟨hi, hJ⟩ K hK
   obtain rfl : K = 3 := hK
   conv => whnf
   by_cases hi2 : i < E0.length
   ·refine bool_true (ltN_t hi2) ?_
    conv => whnf
    have hmi := hJ.le
    have hik : i < k + 1 := by omega
    have hi1 : IntKind.i64.wrap (Int.ofNat i + 1) = Int.ofNat (i + 1) := wrapN (m := i + 1) (by omega)
    have hm1 : IntKind.i64.wrap (Int.ofNat many + 1) = Int.ofNat (many + 1) := wrapN (m := many + 1) (by omega)
    have gd := hD.don hi2
    have g1 := nth_lks E0 i hi2
    have g2 := nth_lk1 E0 i hi2
    have d3 : decide (0 + i * 1 < k + 1) = true := decide_eq_true (by omega)
    repeat ((first
     |refine plan_as (getP_as gd) ?_
     |refine ko_rT (inR_t hi2) ?_
     |refine ko_sF (inR_t hi2) ?_
     |refine plan_as (pick_t (inR_t hi2)) ?_
     |refine bool_true (inR_t hi2) ?_
     |refine ko_rT (inR_t hik) ?_
     |refine ko_sF (inR_t hik) ?_
     |refine plan_as (pick_t (inR_t hik)) ?_
     |refine bool_true (inR_t hik) ?_
     |refine ko_rT d3 ?_
     |refine ko_sF d3 ?_
     |refine plan_as (pick_t d3) ?_
     |refine bool_true d3 ?_
     |refine sym_drawn hS (by kernel_rfl) ?_); conv => whnf)
    by_cases p0 : (gL X i).2.2 = 0
    ·have c0 : (!decide ((gL X i).2.2 ≠ 0)) = true := by rw [p0]; rfl
     by_cases p1 : (gL E0 i).1 = Int.ofNat a
     ·have c1 : ((gL E0 i).1 == Int.ofNat a) = true := beq_iff_eq.2 p1
      repeat ((first
       |refine plan_as (nthP g1) ?_
       |refine ko_rT c0 ?_
       |refine ko_sF c0 ?_
       |refine plan_as (pick_t c0) ?_
       |refine bool_true c0 ?_
       |refine ko_rT (gd_tt c0) ?_
       |refine ko_sF (gd_tt c0) ?_
       |refine plan_as (pick_t (gd_tt c0)) ?_
       |refine bool_true (gd_tt c0) ?_
       |refine ko_rT c1 ?_
       |refine ko_sF c1 ?_
       |refine plan_as (pick_t c1) ?_
       |refine bool_true c1 ?_
       |refine ko_rT (gd_tt c1) ?_
       |refine ko_sF (gd_tt c1) ?_
       |refine plan_as (pick_t (gd_tt c1)) ?_
       |refine bool_true (gd_tt c1) ?_
       |refine ko_sT (gft c1) ?_
       |refine ko_rF (gft c1) ?_
       |refine plan_as (pick_f (gft c1)) ?_
       |refine bool_false (gft c1) ?_
       |refine ko_rT (inR_t hi2) ?_
       |refine ko_sF (inR_t hi2) ?_
       |refine plan_as (pick_t (inR_t hi2)) ?_
       |refine bool_true (inR_t hi2) ?_
       |refine sym_drawn hS (by kernel_rfl) ?_); conv => whnf)
      exact ⟨(i + 1, Int.ofNat i, many + 1), ⟨hi2, hJ.yes p0 (.inl p1)⟩, by show E0.length - (i + 1) < E0.length - i; omega, Nat.le_refl _, (by refine ⟨rfl, rfl, rfl, rfl, rfl, rfl, 3, rfl, ?_, ?_⟩ <;> repeat' (first | exact trivial | exact rfl | exact ⟨_, rfl, WkV.refl _⟩ | exact ⟨_, rfl, WkV.own _ _ _⟩ | exact Nat.zero_le _ | exact ⟨_, rfl, WkV.int hi1⟩ | exact ⟨_, rfl, WkV.int hm1⟩ | exact bdT_ivs hD.s.c1 | exact bdT_lks hD.s.c2 | exact hD.bd | exact Nat.le_of_ble_eq_true rfl | exact bdl_no (by assumption) | exact bdl_no (flat_no _) | exact bdl_no (ivs_no _) | exact bdl_no (svs_no _) | exact Nat.max_le.2 ⟨Nat.le_of_ble_eq_true rfl, bdl_no (ivs_no _)⟩ | exact Nat.max_le.2 ⟨Nat.le_of_ble_eq_true rfl, bdl_no (svs_no _)⟩ | apply And.intro))⟩
     ·have c1 : ((gL E0 i).1 == Int.ofNat a) = false := beq_eq_false_iff_ne.2 p1
      by_cases p2 : (gL E0 i).2.1 = Int.ofNat a
      ·have c2 : ((gL E0 i).2.1 == Int.ofNat a) = true := beq_iff_eq.2 p2
       repeat ((first
        |refine plan_as (nthP g1) ?_
        |refine plan_as (nthP g2) ?_
        |refine ko_rT c0 ?_
        |refine ko_sF c0 ?_
        |refine plan_as (pick_t c0) ?_
        |refine bool_true c0 ?_
        |refine ko_rT (gd_tt c0) ?_
        |refine ko_sF (gd_tt c0) ?_
        |refine plan_as (pick_t (gd_tt c0)) ?_
        |refine bool_true (gd_tt c0) ?_
        |refine ko_sT c1 ?_
        |refine ko_rF c1 ?_
        |refine plan_as (pick_f c1) ?_
        |refine bool_false c1 ?_
        |refine ko_rT (gff c1) ?_
        |refine ko_sF (gff c1) ?_
        |refine plan_as (pick_t (gff c1)) ?_
        |refine bool_true (gff c1) ?_
        |refine ko_rT c2 ?_
        |refine ko_sF c2 ?_
        |refine plan_as (pick_t c2) ?_
        |refine bool_true c2 ?_
        |refine ko_rT (inR_t hi2) ?_
        |refine ko_sF (inR_t hi2) ?_
        |refine plan_as (pick_t (inR_t hi2)) ?_
        |refine bool_true (inR_t hi2) ?_
        |refine sym_drawn hS (by kernel_rfl) ?_); conv => whnf)
       exact ⟨(i + 1, Int.ofNat i, many + 1), ⟨hi2, hJ.yes p0 (.inr p2)⟩, by show E0.length - (i + 1) < E0.length - i; omega, Nat.le_refl _, (by refine ⟨rfl, rfl, rfl, rfl, rfl, rfl, 3, rfl, ?_, ?_⟩ <;> repeat' (first | exact trivial | exact rfl | exact ⟨_, rfl, WkV.refl _⟩ | exact ⟨_, rfl, WkV.own _ _ _⟩ | exact Nat.zero_le _ | exact ⟨_, rfl, WkV.int hi1⟩ | exact ⟨_, rfl, WkV.int hm1⟩ | exact bdT_ivs hD.s.c1 | exact bdT_lks hD.s.c2 | exact hD.bd | exact Nat.le_of_ble_eq_true rfl | exact bdl_no (by assumption) | exact bdl_no (flat_no _) | exact bdl_no (ivs_no _) | exact bdl_no (svs_no _) | exact Nat.max_le.2 ⟨Nat.le_of_ble_eq_true rfl, bdl_no (ivs_no _)⟩ | exact Nat.max_le.2 ⟨Nat.le_of_ble_eq_true rfl, bdl_no (svs_no _)⟩ | apply And.intro))⟩
      ·have c2 : ((gL E0 i).2.1 == Int.ofNat a) = false := beq_eq_false_iff_ne.2 p2
       repeat ((first
        |refine plan_as (nthP g1) ?_
        |refine plan_as (nthP g2) ?_
        |refine ko_rT c0 ?_
        |refine ko_sF c0 ?_
        |refine plan_as (pick_t c0) ?_
        |refine bool_true c0 ?_
        |refine ko_rT (gd_tt c0) ?_
        |refine ko_sF (gd_tt c0) ?_
        |refine plan_as (pick_t (gd_tt c0)) ?_
        |refine bool_true (gd_tt c0) ?_
        |refine ko_sT c1 ?_
        |refine ko_rF c1 ?_
        |refine plan_as (pick_f c1) ?_
        |refine bool_false c1 ?_
        |refine ko_rT (gff c1) ?_
        |refine ko_sF (gff c1) ?_
        |refine plan_as (pick_t (gff c1)) ?_
        |refine bool_true (gff c1) ?_
        |refine ko_sT c2 ?_
        |refine ko_rF c2 ?_
        |refine plan_as (pick_f c2) ?_
        |refine bool_false c2 ?_
        |refine ko_rT (inR_t hi2) ?_
        |refine ko_sF (inR_t hi2) ?_
        |refine plan_as (pick_t (inR_t hi2)) ?_
        |refine bool_true (inR_t hi2) ?_
        |refine sym_drawn hS (by kernel_rfl) ?_); conv => whnf)
       exact ⟨(i + 1, at', many), ⟨hi2, hJ.no fun z => z.2.elim p1 p2⟩, by show E0.length - (i + 1) < E0.length - i; omega, Nat.le_refl _, (by refine ⟨rfl, rfl, rfl, rfl, rfl, rfl, 3, rfl, ?_, ?_⟩ <;> repeat' (first | exact trivial | exact rfl | exact ⟨_, rfl, WkV.refl _⟩ | exact ⟨_, rfl, WkV.own _ _ _⟩ | exact Nat.zero_le _ | exact ⟨_, rfl, WkV.int hi1⟩ | exact bdT_ivs hD.s.c1 | exact bdT_lks hD.s.c2 | exact hD.bd | exact Nat.le_of_ble_eq_true rfl | exact bdl_no (by assumption) | exact bdl_no (flat_no _) | exact bdl_no (ivs_no _) | exact bdl_no (svs_no _) | exact Nat.max_le.2 ⟨Nat.le_of_ble_eq_true rfl, bdl_no (ivs_no _)⟩ | exact Nat.max_le.2 ⟨Nat.le_of_ble_eq_true rfl, bdl_no (svs_no _)⟩ | apply And.intro))⟩
    ·have c0 : (!decide ((gL X i).2.2 ≠ 0)) = false := by rw [decide_eq_true p0]; rfl
     repeat ((first
      |refine ko_sT c0 ?_
      |refine ko_rF c0 ?_
      |refine plan_as (pick_f c0) ?_
      |refine bool_false c0 ?_
      |refine ko_sT (gd_tf c0) ?_
      |refine ko_rF (gd_tf c0) ?_
      |refine plan_as (pick_f (gd_tf c0)) ?_
      |refine bool_false (gd_tf c0) ?_
      |refine sym_drawn hS (by kernel_rfl) ?_); conv => whnf)
     exact ⟨(i + 1, at', many), ⟨hi2, hJ.no fun z => p0 z.1⟩, by show E0.length - (i + 1) < E0.length - i; omega, Nat.le_refl _, (by refine ⟨rfl, rfl, rfl, rfl, rfl, rfl, 3, rfl, ?_, ?_⟩ <;> repeat' (first | exact trivial | exact rfl | exact ⟨_, rfl, WkV.refl _⟩ | exact ⟨_, rfl, WkV.own _ _ _⟩ | exact Nat.zero_le _ | exact ⟨_, rfl, WkV.int hi1⟩ | exact bdT_ivs hD.s.c1 | exact bdT_lks hD.s.c2 | exact hD.bd | exact Nat.le_of_ble_eq_true rfl | exact bdl_no (by assumption) | exact bdl_no (flat_no _) | exact bdl_no (ivs_no _) | exact bdl_no (svs_no _) | exact Nat.max_le.2 ⟨Nat.le_of_ble_eq_true rfl, bdl_no (ivs_no _)⟩ | exact Nat.max_le.2 ⟨Nat.le_of_ble_eq_true rfl, bdl_no (svs_no _)⟩ | apply And.intro))⟩
   ·refine bool_false (ltN_f hi2) ?_
    conv => whnf
    refine .inl ?_
    conv => whnf
    have ei : i = E0.length := by omega
    have ha1 : IntKind.i64.wrap (Int.ofNat a + 1) = Int.ofNat (a + 1) := wrapN (m := a + 1) (by omega)
    by_cases hm : many = 1
    ·have hl := hJ.leaf ei hm
     refine bool_false ((show (Int.ofNat many != (1 : Int)) = false by rw [hm]; rfl)) ?_
     conv => whnf
     have hga := hD.s.acc (a := a) (by omega)
     have hlt := hl.2.1
     have hat := hl.1
     have hai : inR at' E0.length = true := by rw [hat]; exact inR_t hlt
     have da : decide (0 + a * 1 < m + 1) = true := decide_eq_true (by omega)
     repeat ((first
      |refine plan_as (getP_as hga) ?_
      |refine ko_rT (inR_t ha2) ?_
      |refine ko_sF (inR_t ha2) ?_
      |refine plan_as (pick_t (inR_t ha2)) ?_
      |refine bool_true (inR_t ha2) ?_
      |refine ko_rT da ?_
      |refine ko_sF da ?_
      |refine plan_as (pick_t da) ?_
      |refine bool_true da ?_
      |refine sym_drawn hS (by kernel_rfl) ?_); conv => whnf)
     have hF : (gL E0 at'.toNat).1 = Int.ofNat (gL E0 at'.toNat).1.toNat := (Int.toNat_of_nonneg ((hr _ hlt).2 _ (.inl rfl)).1).symm
     have hT : (gL E0 at'.toNat).2.1 = Int.ofNat (gL E0 at'.toNat).2.1.toNat := (Int.toNat_of_nonneg ((hr _ hlt).2 _ (.inr rfl)).1).symm
     have hFb : (gL E0 at'.toNat).1.toNat < b.length := by have := (hr _ hlt).2 _ (.inl rfl); omega
     have hTb : (gL E0 at'.toNat).2.1.toNat < b.length := by have := (hr _ hlt).2 _ (.inr rfl); omega
     have hFT : (gL E0 at'.toNat).1.toNat ≠ (gL E0 at'.toNat).2.1.toNat := fun z => (hr _ hlt).1 (by rw [hF, hT, z])
     have gF := hD.s.acc hFb
     have gT := hD.s.acc hTb
     have iF : inR (gL E0 at'.toNat).1 (m + 1) = true := by rw [hF]; exact inR_t (by omega)
     have iT : inR (gL E0 at'.toNat).2.1 (m + 1) = true := by rw [hT]; exact inR_t (by omega)
     have dF : decide (0 + (gL E0 at'.toNat).1.toNat * 1 < m + 1) = true := decide_eq_true (by omega)
     have dT : decide (0 + (gL E0 at'.toNat).2.1.toNat * 1 < m + 1) = true := decide_eq_true (by omega)
     have n1 := nth_lks E0 at'.toNat hlt
     have n2 := nth_lk1 E0 at'.toNat hlt
     have hba := hD.s.bd a (by omega)
     have h8 := (bd8_le (o := o)).2
     have hmx := mx_abs (x := lf.getD a 0) (by omega)
     have hsol : ∀ Y, SolL b E0 Y → maxI (lf.getD a 0) (IntKind.i64.wrap (0 - lf.getD a 0)) ≠ 0 ∧ maxI (lf.getD a 0) (IntKind.i64.wrap (0 - lf.getD a 0)) ≤ lf.getD (gL E0 at'.toNat).1.toNat 0 ∧ lf.getD (gL E0 at'.toNat).2.1.toNat 0 ≤ - maxI (lf.getD a 0) (IntKind.i64.wrap (0 - lf.getD a 0)) := fun Y hY => by
      have q1 := hD.s.leaf (by omega) hl.2 (hr _ hlt).1 hY
      have q2 := (hD.s.inv.room hY hlt hl.2.2.1 (hr _ hlt).1 hbp hFb).1 hF
      have q3 := (hD.s.inv.room hY hlt hl.2.2.1 (hr _ hlt).1 hbp hTb).2 hT
      rw [q1.1]
      exact ⟨by omega, q2, q3⟩
     have hw : IntKind.i64.wrap (0 - maxI (lf.getD a 0) (IntKind.i64.wrap (0 - lf.getD a 0))) = - maxI (lf.getD a 0) (IntKind.i64.wrap (0 - lf.getD a 0)) := by
      rw [wrapI]
      ·omega
      ·rw [hmx]; split <;> omega
      ·rw [hmx]; split <;> omega
     by_cases hc : maxI (lf.getD a 0) (IntKind.i64.wrap (0 - lf.getD a 0)) = 0
     ·have c0 : (maxI (lf.getD a 0) (IntKind.i64.wrap (0 - lf.getD a 0)) == 0) = true := beq_iff_eq.2 hc
      repeat ((first
       |refine ko_rT c0 ?_
       |refine ko_sF c0 ?_
       |refine plan_as (pick_t c0) ?_
       |refine bool_true c0 ?_
       |refine ko_sT (gft c0) ?_
       |refine ko_rF (gft c0) ?_
       |refine plan_as (pick_f (gft c0)) ?_
       |refine bool_false (gft c0) ?_
       |refine sym_drawn hS (by kernel_rfl) ?_); conv => whnf)
      refine ⟨_, rfl, ?_⟩
      rw [hbad fun z => by
       obtain ⟨_, Y, hY⟩ := z
       have := hsol Y hY
       exact this.1 hc]
      exact FzV.no (v := .tup [.nils, .bool false]) ⟨trivial, trivial, trivial⟩
     ·have c0 : (maxI (lf.getD a 0) (IntKind.i64.wrap (0 - lf.getD a 0)) == 0) = false := beq_eq_false_iff_ne.2 hc
      by_cases hf : lf.getD (gL E0 at'.toNat).1.toNat 0 < maxI (lf.getD a 0) (IntKind.i64.wrap (0 - lf.getD a 0))
      ·have c1 : decide (lf.getD (gL E0 at'.toNat).1.toNat 0 < maxI (lf.getD a 0) (IntKind.i64.wrap (0 - lf.getD a 0))) = true := decide_eq_true hf
       repeat ((first
        |refine plan_as (nthP n1) ?_
        |refine plan_as (getP_as gF) ?_
        |refine ko_sT c0 ?_
        |refine ko_rF c0 ?_
        |refine plan_as (pick_f c0) ?_
        |refine bool_false c0 ?_
        |refine ko_rT (gff c0) ?_
        |refine ko_sF (gff c0) ?_
        |refine plan_as (pick_t (gff c0)) ?_
        |refine bool_true (gff c0) ?_
        |refine ko_rT c1 ?_
        |refine ko_sF c1 ?_
        |refine plan_as (pick_t c1) ?_
        |refine bool_true c1 ?_
        |refine ko_sT (gft c1) ?_
        |refine ko_rF (gft c1) ?_
        |refine plan_as (pick_f (gft c1)) ?_
        |refine bool_false (gft c1) ?_
        |refine ko_rT hai ?_
        |refine ko_sF hai ?_
        |refine plan_as (pick_t hai) ?_
        |refine bool_true hai ?_
        |refine ko_rT iF ?_
        |refine ko_sF iF ?_
        |refine plan_as (pick_t iF) ?_
        |refine bool_true iF ?_
        |refine ko_rT dF ?_
        |refine ko_sF dF ?_
        |refine plan_as (pick_t dF) ?_
        |refine bool_true dF ?_
        |refine sym_drawn hS (by kernel_rfl) ?_); conv => whnf)
       refine ⟨_, rfl, ?_⟩
       rw [hbad fun z => by
        obtain ⟨_, Y, hY⟩ := z
        have := hsol Y hY
        omega]
       exact FzV.no (v := .tup [.nils, .bool false]) ⟨trivial, trivial, trivial⟩
      ·have c1 : decide (lf.getD (gL E0 at'.toNat).1.toNat 0 < maxI (lf.getD a 0) (IntKind.i64.wrap (0 - lf.getD a 0))) = false := decide_eq_false hf
       by_cases ht : lf.getD (gL E0 at'.toNat).2.1.toNat 0 > IntKind.i64.wrap (0 - maxI (lf.getD a 0) (IntKind.i64.wrap (0 - lf.getD a 0)))
       ·have c2 : decide (lf.getD (gL E0 at'.toNat).2.1.toNat 0 > IntKind.i64.wrap (0 - maxI (lf.getD a 0) (IntKind.i64.wrap (0 - lf.getD a 0)))) = true := decide_eq_true ht
        repeat ((first
         |refine plan_as (nthP n1) ?_
         |refine plan_as (getP_as gF) ?_
         |refine plan_as (nthP n2) ?_
         |refine plan_as (getP_as gT) ?_
         |refine ko_sT c0 ?_
         |refine ko_rF c0 ?_
         |refine plan_as (pick_f c0) ?_
         |refine bool_false c0 ?_
         |refine ko_rT (gff c0) ?_
         |refine ko_sF (gff c0) ?_
         |refine plan_as (pick_t (gff c0)) ?_
         |refine bool_true (gff c0) ?_
         |refine ko_sT c1 ?_
         |refine ko_rF c1 ?_
         |refine plan_as (pick_f c1) ?_
         |refine bool_false c1 ?_
         |refine ko_rT (gff c1) ?_
         |refine ko_sF (gff c1) ?_
         |refine plan_as (pick_t (gff c1)) ?_
         |refine bool_true (gff c1) ?_
         |refine ko_rT c2 ?_
         |refine ko_sF c2 ?_
         |refine plan_as (pick_t c2) ?_
         |refine bool_true c2 ?_
         |refine ko_rT hai ?_
         |refine ko_sF hai ?_
         |refine plan_as (pick_t hai) ?_
         |refine bool_true hai ?_
         |refine ko_rT iF ?_
         |refine ko_sF iF ?_
         |refine plan_as (pick_t iF) ?_
         |refine bool_true iF ?_
         |refine ko_rT dF ?_
         |refine ko_sF dF ?_
         |refine plan_as (pick_t dF) ?_
         |refine bool_true dF ?_
         |refine ko_rT iT ?_
         |refine ko_sF iT ?_
         |refine plan_as (pick_t iT) ?_
         |refine bool_true iT ?_
         |refine ko_rT dT ?_
         |refine ko_sF dT ?_
         |refine plan_as (pick_t dT) ?_
         |refine bool_true dT ?_
         |refine sym_drawn hS (by kernel_rfl) ?_); conv => whnf)
        refine ⟨_, rfl, ?_⟩
        rw [hbad fun z => by
         obtain ⟨_, Y, hY⟩ := z
         have := hsol Y hY
         omega]
        exact FzV.no (v := .tup [.nils, .bool false]) ⟨trivial, trivial, trivial⟩
       ·have c2 : decide (lf.getD (gL E0 at'.toNat).2.1.toNat 0 > IntKind.i64.wrap (0 - maxI (lf.getD a 0) (IntKind.i64.wrap (0 - lf.getD a 0)))) = false := decide_eq_false ht
        have P := hD.s.pay hk8 (by omega) hl.2 hF hT hFb hTb hFT hc rfl rfl rfl rfl
        have D := hD.pay hlt (by exact hc) P.2.2
        repeat ((first
         |refine plan_as (nthP n1) ?_
         |refine plan_as (getP_as gF) ?_
         |refine plan_as (nthP n2) ?_
         |refine plan_as (getP_as gT) ?_
         |refine ko_sT c0 ?_
         |refine ko_rF c0 ?_
         |refine plan_as (pick_f c0) ?_
         |refine bool_false c0 ?_
         |refine ko_rT (gff c0) ?_
         |refine ko_sF (gff c0) ?_
         |refine plan_as (pick_t (gff c0)) ?_
         |refine bool_true (gff c0) ?_
         |refine ko_sT c1 ?_
         |refine ko_rF c1 ?_
         |refine plan_as (pick_f c1) ?_
         |refine bool_false c1 ?_
         |refine ko_rT (gff c1) ?_
         |refine ko_sF (gff c1) ?_
         |refine plan_as (pick_t (gff c1)) ?_
         |refine bool_true (gff c1) ?_
         |refine ko_sT c2 ?_
         |refine ko_rF c2 ?_
         |refine plan_as (pick_f c2) ?_
         |refine bool_false c2 ?_
         |refine ko_rT hai ?_
         |refine ko_sF hai ?_
         |refine plan_as (pick_t hai) ?_
         |refine bool_true hai ?_
         |refine ko_rT iF ?_
         |refine ko_sF iF ?_
         |refine plan_as (pick_t iF) ?_
         |refine bool_true iF ?_
         |refine ko_rT dF ?_
         |refine ko_sF dF ?_
         |refine plan_as (pick_t dF) ?_
         |refine bool_true dF ?_
         |refine ko_rT iT ?_
         |refine ko_sF iT ?_
         |refine plan_as (pick_t iT) ?_
         |refine bool_true iT ?_
         |refine ko_rT dT ?_
         |refine ko_sF dT ?_
         |refine plan_as (pick_t dT) ?_
         |refine bool_true dT ?_
         |refine sym_drawn hS (by kernel_rfl) ?_); conv => whnf)
        have hent := hD.s.ent hlt
        have hai2 : inR at' (k + 1) = true := by rw [hat]; exact inR_t (by omega)
        have b5 : Nat.ble (0 + at'.toNat * 3 + 2 + 1) ((k + 1) * 3) = true := Nat.ble_eq_true_of_le (by omega)
        have bD : Nat.ble (0 + at'.toNat * 1 + 1) (k + 1) = true := Nat.ble_eq_true_of_le (by omega)
        have bF : Nat.ble (0 + (gL E0 at'.toNat).1.toNat * 1 + 1) (m + 1) = true := Nat.ble_eq_true_of_le (by omega)
        have bT : Nat.ble (0 + (gL E0 at'.toNat).2.1.toNat * 1 + 1) (m + 1) = true := Nat.ble_eq_true_of_le (by omega)
        repeat ((first
         |refine ko_rT hai2 ?_
         |refine ko_sF hai2 ?_
         |refine plan_as (pick_t hai2) ?_
         |refine bool_true hai2 ?_
         |refine ko_rT b5 ?_
         |refine ko_sF b5 ?_
         |refine plan_as (pick_t b5) ?_
         |refine bool_true b5 ?_
         |refine sym_drawn hS (by kernel_rfl) ?_); conv => whnf)
        refine set_sym hent.2.2 ?_
        conv => whnf
        repeat ((first
         |refine ko_rT hai ?_
         |refine ko_sF hai ?_
         |refine plan_as (pick_t hai) ?_
         |refine bool_true hai ?_
         |refine ko_rT bD ?_
         |refine ko_sF bD ?_
         |refine plan_as (pick_t bD) ?_
         |refine bool_true bD ?_
         |refine sym_drawn hS (by kernel_rfl) ?_); conv => whnf)
        refine set_sym (hD.don hlt) ?_
        conv => whnf
        repeat ((first
         |refine plan_as (nthP n1) ?_
         |refine plan_as (nthP n2) ?_
         |refine plan_as (getP_as gF) ?_
         |refine plan_as (getP_as gT) ?_
         |refine ko_rT hai ?_
         |refine ko_sF hai ?_
         |refine plan_as (pick_t hai) ?_
         |refine bool_true hai ?_
         |refine ko_rT iF ?_
         |refine ko_sF iF ?_
         |refine plan_as (pick_t iF) ?_
         |refine bool_true iF ?_
         |refine ko_rT iT ?_
         |refine ko_sF iT ?_
         |refine plan_as (pick_t iT) ?_
         |refine bool_true iT ?_
         |refine ko_rT dF ?_
         |refine ko_sF dF ?_
         |refine plan_as (pick_t dF) ?_
         |refine bool_true dF ?_
         |refine ko_rT dT ?_
         |refine ko_sF dT ?_
         |refine plan_as (pick_t dT) ?_
         |refine bool_true dT ?_
         |refine ko_rT bF ?_
         |refine ko_sF bF ?_
         |refine plan_as (pick_t bF) ?_
         |refine bool_true bF ?_
         |refine sym_drawn hS (by kernel_rfl) ?_); conv => whnf)
        refine set_sym gF ?_
        conv => whnf
        repeat ((first
         |refine plan_as (nthP n1) ?_
         |refine plan_as (nthP n2) ?_
         |refine plan_as (getP_as gF) ?_
         |refine plan_as (getP_as gT) ?_
         |refine ko_rT hai ?_
         |refine ko_sF hai ?_
         |refine plan_as (pick_t hai) ?_
         |refine bool_true hai ?_
         |refine ko_rT iF ?_
         |refine ko_sF iF ?_
         |refine plan_as (pick_t iF) ?_
         |refine bool_true iF ?_
         |refine ko_rT iT ?_
         |refine ko_sF iT ?_
         |refine plan_as (pick_t iT) ?_
         |refine bool_true iT ?_
         |refine ko_rT dF ?_
         |refine ko_sF dF ?_
         |refine plan_as (pick_t dF) ?_
         |refine bool_true dF ?_
         |refine ko_rT dT ?_
         |refine ko_sF dT ?_
         |refine plan_as (pick_t dT) ?_
         |refine bool_true dT ?_
         |refine ko_rT bT ?_
         |refine ko_sF bT ?_
         |refine plan_as (pick_t bT) ?_
         |refine bool_true bT ?_
         |refine sym_drawn hS (by kernel_rfl) ?_); conv => whnf)
        refine set_sym P.1 ?_
        conv => whnf
        repeat ((first
         |refine ko_sT c0 ?_
         |refine ko_rF c0 ?_
         |refine plan_as (pick_f c0) ?_
         |refine bool_false c0 ?_
         |refine sym_drawn hS (by kernel_rfl) ?_); conv => whnf)
        have hoc1 : o - 1 < o ∨ o = 0 := by omega
        have ho1 : 0 < o := by
         rw [hD.s.oc]
         exact Nat.pos_of_ne_zero fun z => oc_zero z at'.toNat (by rw [hD.s.inv.ft.1]; exact hlt) hl.2.2.1
        exact ⟨(a + 1, _, _, _, _, _, o - 1), ⟨⟨by omega, by omega, .inl (by omega)⟩, D⟩, by show m + 1 - (a + 1) < m + 1 - a; omega, Nat.le_refl _, (by refine ⟨rfl, rfl, rfl, rfl, rfl, rfl, 3, rfl, ?_, ?_⟩ <;> repeat' (first | exact trivial | exact rfl | exact ⟨_, rfl, WkV.refl _⟩ | exact ⟨_, rfl, WkV.own _ _ _⟩ | exact Nat.zero_le _ | exact ⟨_, rfl, WkV.int ha1⟩ | exact bdT_ivs P.2.2.c1 | exact bdT_lks P.2.2.c2 | exact D.bd | exact Nat.le_of_ble_eq_true rfl | exact bdl_no (by assumption) | exact bdl_no (flat_no _) | exact bdl_no (ivs_no _) | exact bdl_no (svs_no _) | exact Nat.max_le.2 ⟨Nat.le_of_ble_eq_true rfl, bdl_no (ivs_no _)⟩ | exact Nat.max_le.2 ⟨Nat.le_of_ble_eq_true rfl, bdl_no (svs_no _)⟩ | apply And.intro))⟩
    ·have hl := hJ.none ei hm
     refine bool_true ((show (Int.ofNat many != (1 : Int)) = true from bne_iff_ne.2 fun z => hm (Int.ofNat.inj z))) ?_
     conv => whnf
     exact ⟨(a + 1, X, lf, t1, t2, t3, o), ⟨⟨by omega, ho0, hpr.imp id fun h c hc i => by
      by_cases e : c = a
      ·rw [e]; exact hl i
      ·exact h c (by omega) i⟩, hD⟩, by show m + 1 - (a + 1) < m + 1 - a; omega, Nat.le_refl _, (by refine ⟨rfl, rfl, rfl, rfl, rfl, rfl, 3, rfl, ?_, ?_⟩ <;> repeat' (first | exact trivial | exact rfl | exact ⟨_, rfl, WkV.refl _⟩ | exact ⟨_, rfl, WkV.own _ _ _⟩ | exact Nat.zero_le _ | exact ⟨_, rfl, WkV.int ha1⟩ | exact bdT_ivs hD.s.c1 | exact bdT_lks hD.s.c2 | exact hD.bd | exact Nat.le_of_ble_eq_true rfl | exact bdl_no (by assumption) | exact bdl_no (flat_no _) | exact bdl_no (ivs_no _) | exact bdl_no (svs_no _) | exact Nat.max_le.2 ⟨Nat.le_of_ble_eq_true rfl, bdl_no (ivs_no _)⟩ | exact Nat.max_le.2 ⟨Nat.le_of_ble_eq_true rfl, bdl_no (svs_no _)⟩ | apply And.intro))⟩
  ·refine bool_false (ltN_f ha2) ?_
   conv => whnf
   refine .inl ?_
   conv => whnf
   have hr11 : IntKind.i64.wrap (Int.ofNat r + 1) = Int.ofNat (r + 1) := wrapN (m := r + 1) (by omega)
   exact ⟨(r + 1, X, lf, t1, t2, t3, o), ⟨⟨hrk, fun hf => by
    have := hr2 hf
    by_cases o1 : o < o0
    ·omega
    ·by_cases o2 : o = 0
     ·omega
     ·refine absurd hf (hD.s.inv.stuck (fun i hi => (hr i hi).2) ?_ fun c hc i => (hpr.resolve_left o1) c (by omega) i)
      obtain ⟨i, h1, h2⟩ := oc_some (X := X) (by rw [← hD.s.oc]; omega)
      exact ⟨i, by rw [← hD.s.inv.ft.1]; exact h1, h2⟩⟩, hD⟩, by show E0.length - (r + 1) < E0.length - r; omega, Nat.le_refl _, (by refine ⟨rfl, rfl, rfl, rfl, rfl, rfl, 3, rfl, ?_, ?_⟩ <;> repeat' (first | exact trivial | exact rfl | exact ⟨_, rfl, WkV.refl _⟩ | exact ⟨_, rfl, WkV.own _ _ _⟩ | exact Nat.zero_le _ | exact ⟨_, rfl, WkV.int hr11⟩ | exact bdT_ivs hD.s.c1 | exact bdT_lks hD.s.c2 | exact hD.bd | exact Nat.le_of_ble_eq_true rfl | exact bdl_no (by assumption) | exact bdl_no (flat_no _) | exact bdl_no (ivs_no _) | exact bdl_no (svs_no _) | exact Nat.max_le.2 ⟨Nat.le_of_ble_eq_true rfl, bdl_no (ivs_no _)⟩ | exact Nat.max_le.2 ⟨Nat.le_of_ble_eq_true rfl, bdl_no (svs_no _)⟩ | apply And.intro))⟩
 ·refine bool_false (ltN_f hrk) ?_
  conv => whnf
  refine .inl ?_
  conv => whnf
  have hr0 : FR E0 → o0 = 0 := fun hf => by have := hr2 hf; omega
  refine sym_loopG hE hS (A := Nat) [1, 6, 7, 8] (fun i => [(15, nv i)]) (fun _ => []) (fun _ => []) (fun i => i ≤ E0.length ∧ ∀ j, j < i → (gL X0 j).2.2 ≠ 0) (fun i => E0.length - i) 0 (Nat.le_of_ble_eq_true rfl) rfl (by refine ⟨rfl, rfl, rfl, rfl, rfl, rfl, 3, rfl, ?_, ?_⟩ <;> repeat' (first | exact trivial | exact rfl | exact ⟨_, rfl, WkV.refl _⟩ | exact ⟨_, rfl, WkV.own _ _ _⟩ | exact Nat.zero_le _ | exact bdT_ivs hD.s.c1 | exact bdT_lks hD.s.c2 | exact hD.bd | exact Nat.le_of_ble_eq_true rfl | exact bdl_no (by assumption) | exact bdl_no (flat_no _) | exact bdl_no (ivs_no _) | exact bdl_no (svs_no _) | exact Nat.max_le.2 ⟨Nat.le_of_ble_eq_true rfl, bdl_no (ivs_no _)⟩ | exact Nat.max_le.2 ⟨Nat.le_of_ble_eq_true rfl, bdl_no (svs_no _)⟩ | apply And.intro)) ⟨Nat.zero_le _, fun _ h => absurd h (Nat.not_lt_zero _)⟩ ?_
  rintro i ⟨hi, hj⟩ K hK
  obtain rfl : K = 3 := hK
  conv => whnf
  by_cases hi2 : i < E0.length
  ·have gd := hD.don hi2
   have d3 : decide (0 + i * 1 < k + 1) = true := decide_eq_true (by omega)
   by_cases p0 : (gL X0 i).2.2 = 0
   ·have c0 : (!decide ((gL X0 i).2.2 ≠ 0)) = true := by rw [p0]; rfl
    repeat ((first
     |refine plan_as (getP_as gd) ?_
     |refine ko_rT (ltN_t hi2) ?_
     |refine ko_sF (ltN_t hi2) ?_
     |refine plan_as (pick_t (ltN_t hi2)) ?_
     |refine bool_true (ltN_t hi2) ?_
     |refine ko_sT (ltN_t hi2) ?_
     |refine ko_rF (ltN_t hi2) ?_
     |refine plan_as (pick_f (ltN_t hi2)) ?_
     |refine bool_false (ltN_t hi2) ?_
     |refine ko_rT (inR_t hi2) ?_
     |refine ko_sF (inR_t hi2) ?_
     |refine plan_as (pick_t (inR_t hi2)) ?_
     |refine bool_true (inR_t hi2) ?_
     |refine ko_rT d3 ?_
     |refine ko_sF d3 ?_
     |refine plan_as (pick_t d3) ?_
     |refine bool_true d3 ?_
     |refine ko_rT c0 ?_
     |refine ko_sF c0 ?_
     |refine plan_as (pick_t c0) ?_
     |refine bool_true c0 ?_
     |refine sym_drawn hS (by kernel_rfl) ?_); conv => whnf)
    refine ⟨_, rfl, ?_⟩
    rw [hbad fun z => oc_zero (hD.s.oc.symm.trans (hr0 z.1)) i (by rw [hD.s.inv.ft.1]; exact hi2) p0]
    exact FzV.no (v := .tup [.nils, .bool false]) ⟨trivial, trivial, trivial⟩
   ·have c0 : (!decide ((gL X0 i).2.2 ≠ 0)) = false := by rw [decide_eq_true p0]; rfl
    repeat ((first
     |refine plan_as (getP_as gd) ?_
     |refine ko_rT (ltN_t hi2) ?_
     |refine ko_sF (ltN_t hi2) ?_
     |refine plan_as (pick_t (ltN_t hi2)) ?_
     |refine bool_true (ltN_t hi2) ?_
     |refine ko_sT (ltN_t hi2) ?_
     |refine ko_rF (ltN_t hi2) ?_
     |refine plan_as (pick_f (ltN_t hi2)) ?_
     |refine bool_false (ltN_t hi2) ?_
     |refine ko_rT (inR_t hi2) ?_
     |refine ko_sF (inR_t hi2) ?_
     |refine plan_as (pick_t (inR_t hi2)) ?_
     |refine bool_true (inR_t hi2) ?_
     |refine ko_rT d3 ?_
     |refine ko_sF d3 ?_
     |refine plan_as (pick_t d3) ?_
     |refine bool_true d3 ?_
     |refine ko_sT c0 ?_
     |refine ko_rF c0 ?_
     |refine plan_as (pick_f c0) ?_
     |refine bool_false c0 ?_
     |refine sym_drawn hS (by kernel_rfl) ?_); conv => whnf)
    exact ⟨i + 1, ⟨hi2, fun j h => by
     by_cases e : j = i
     ·rw [e]; exact p0
     ·exact hj j (by omega)⟩, by omega, Nat.le_refl _, (by refine ⟨rfl, rfl, rfl, rfl, rfl, rfl, 3, rfl, ?_, ?_⟩ <;> repeat' (first | exact trivial | exact rfl | exact ⟨_, rfl, WkV.refl _⟩ | exact ⟨_, rfl, WkV.own _ _ _⟩ | exact Nat.zero_le _ | exact ⟨_, rfl, WkV.int (show IntKind.i64.wrap (Int.ofNat i + 1) = Int.ofNat (i + 1) from wrapN (m := i + 1) (by omega))⟩ | exact bdT_ivs hD.s.c1 | exact bdT_lks hD.s.c2 | exact hD.bd | exact Nat.le_of_ble_eq_true rfl | exact bdl_no (by assumption) | exact bdl_no (flat_no _) | exact bdl_no (ivs_no _) | exact bdl_no (svs_no _) | exact Nat.max_le.2 ⟨Nat.le_of_ble_eq_true rfl, bdl_no (ivs_no _)⟩ | exact Nat.max_le.2 ⟨Nat.le_of_ble_eq_true rfl, bdl_no (svs_no _)⟩ | apply And.intro))⟩
  ·refine bool_false (ltN_f hi2) ?_
   conv => whnf
   refine .inl ?_
   conv => whnf
   have hall : ∀ j, j < E0.length → 0 < (gL X0 j).2.2 := fun j h => by
    have h1 := hD.s.inv.nn j h
    have h2 := hj j (by omega)
    omega
   have hXl := hD.s.inv.ft.1
   have hlX := lks_len X0
   refine sym_loopG hE hS (A := Nat) [6, 7] (fun i => [(16, nv i)]) (fun _ => []) (fun _ => []) (fun i => i ≤ m + 1 ∧ ∀ j, j < i → lf0.getD j 0 = 0) (fun i => m + 1 - i) 0 (Nat.le_of_ble_eq_true rfl) rfl (by refine ⟨rfl, rfl, rfl, rfl, rfl, rfl, 3, rfl, ?_, ?_⟩ <;> repeat' (first | exact trivial | exact rfl | exact ⟨_, rfl, WkV.refl _⟩ | exact ⟨_, rfl, WkV.own _ _ _⟩ | exact Nat.zero_le _ | exact bdT_ivs hD.s.c1 | exact bdT_lks hD.s.c2 | exact hD.bd | exact Nat.le_of_ble_eq_true rfl | exact bdl_no (by assumption) | exact bdl_no (flat_no _) | exact bdl_no (ivs_no _) | exact bdl_no (svs_no _) | exact Nat.max_le.2 ⟨Nat.le_of_ble_eq_true rfl, bdl_no (ivs_no _)⟩ | exact Nat.max_le.2 ⟨Nat.le_of_ble_eq_true rfl, bdl_no (svs_no _)⟩ | apply And.intro)) ⟨Nat.zero_le _, fun _ h => absurd h (Nat.not_lt_zero _)⟩ ?_
   rintro i ⟨hi, hj⟩ K hK
   obtain rfl : K = 3 := hK
   conv => whnf
   by_cases hi2 : i < m + 1
   ·have gi := hD.s.acc (a := i) (by omega)
    have di : decide (0 + i * 1 < m + 1) = true := decide_eq_true (by omega)
    by_cases c : lf0.getD i 0 = 0
    ·have c0 : (lf0.getD i 0 != 0) = false := by rw [c]; rfl
     repeat ((first
      |refine plan_as (getP_as gi) ?_
      |refine ko_rT (ltN_t hi2) ?_
      |refine ko_sF (ltN_t hi2) ?_
      |refine plan_as (pick_t (ltN_t hi2)) ?_
      |refine bool_true (ltN_t hi2) ?_
      |refine ko_sT (ltN_t hi2) ?_
      |refine ko_rF (ltN_t hi2) ?_
      |refine plan_as (pick_f (ltN_t hi2)) ?_
      |refine bool_false (ltN_t hi2) ?_
      |refine ko_rT (inR_t hi2) ?_
      |refine ko_sF (inR_t hi2) ?_
      |refine plan_as (pick_t (inR_t hi2)) ?_
      |refine bool_true (inR_t hi2) ?_
      |refine ko_rT di ?_
      |refine ko_sF di ?_
      |refine plan_as (pick_t di) ?_
      |refine bool_true di ?_
      |refine ko_sT c0 ?_
      |refine ko_rF c0 ?_
      |refine plan_as (pick_f c0) ?_
      |refine bool_false c0 ?_
      |refine sym_drawn hS (by kernel_rfl) ?_); conv => whnf)
     exact ⟨i + 1, ⟨hi2, fun j h => by
      by_cases e : j = i
      ·rw [e]; exact c
      ·exact hj j (by omega)⟩, by omega, Nat.le_refl _, (by refine ⟨rfl, rfl, rfl, rfl, rfl, rfl, 3, rfl, ?_, ?_⟩ <;> repeat' (first | exact trivial | exact rfl | exact ⟨_, rfl, WkV.refl _⟩ | exact ⟨_, rfl, WkV.own _ _ _⟩ | exact Nat.zero_le _ | exact ⟨_, rfl, WkV.int (show IntKind.i64.wrap (Int.ofNat i + 1) = Int.ofNat (i + 1) from wrapN (m := i + 1) (by omega))⟩ | exact bdT_ivs hD.s.c1 | exact bdT_lks hD.s.c2 | exact hD.bd | exact Nat.le_of_ble_eq_true rfl | exact bdl_no (by assumption) | exact bdl_no (flat_no _) | exact bdl_no (ivs_no _) | exact bdl_no (svs_no _) | exact Nat.max_le.2 ⟨Nat.le_of_ble_eq_true rfl, bdl_no (ivs_no _)⟩ | exact Nat.max_le.2 ⟨Nat.le_of_ble_eq_true rfl, bdl_no (svs_no _)⟩ | apply And.intro))⟩
    ·have c0 : (lf0.getD i 0 != 0) = true := bne_iff_ne.2 c
     repeat ((first
      |refine plan_as (getP_as gi) ?_
      |refine ko_rT (ltN_t hi2) ?_
      |refine ko_sF (ltN_t hi2) ?_
      |refine plan_as (pick_t (ltN_t hi2)) ?_
      |refine bool_true (ltN_t hi2) ?_
      |refine ko_sT (ltN_t hi2) ?_
      |refine ko_rF (ltN_t hi2) ?_
      |refine plan_as (pick_f (ltN_t hi2)) ?_
      |refine bool_false (ltN_t hi2) ?_
      |refine ko_rT (inR_t hi2) ?_
      |refine ko_sF (inR_t hi2) ?_
      |refine plan_as (pick_t (inR_t hi2)) ?_
      |refine bool_true (inR_t hi2) ?_
      |refine ko_rT di ?_
      |refine ko_sF di ?_
      |refine plan_as (pick_t di) ?_
      |refine bool_true di ?_
      |refine ko_rT c0 ?_
      |refine ko_sF c0 ?_
      |refine plan_as (pick_t c0) ?_
      |refine bool_true c0 ?_
      |refine sym_drawn hS (by kernel_rfl) ?_); conv => whnf)
     refine ⟨_, rfl, ?_⟩
     rw [hbad fun z => by
      obtain ⟨_, Y, hY⟩ := z
      exact c (hD.s.inv.zero hall hY i (by omega))]
     exact FzV.no (v := .tup [.nils, .bool false]) ⟨trivial, trivial, trivial⟩
   ·refine bool_false (ltN_f hi2) ?_
    conv => whnf
    refine .inl ?_
    conv => whnf
    refine ⟨_, rfl, ?_⟩
    rw [hyes X0 (hD.s.inv.forest hall) (hD.s.inv.solved hall fun a ha => hj a (by omega))]
    refine FzV.tup (xs := [_, .bool true]) (ys := [lkA X0, .bool true]) ⟨?_, .no trivial, trivial⟩
    show FzV _ (.slc 1 0 (k + 1) 0) (.lst (lks X0) X0.length .no)
    rw [hXl, hk]
    exact FzV.slcN (n := (k + 1) * 3) rfl (by omega) (fun j _ => hD.s.c2 j) (lks_no X0)
theorem rsettled_some {b : List Int} {E0 Y : List LkI} (hb : b.length ≤ 5) (hb2 : 2 ≤ b.length) (hk8 : E0.length ≤ 8) (hk1 : 1 ≤ E0.length) (hz : ∀ i, i < E0.length → (gL E0 i).2.2 = 0) (hr : ∀ i, i < E0.length → (gL E0 i).1 ≠ (gL E0 i).2.1 ∧ ∀ a, tch (gL E0 i) a → 0 ≤ a ∧ a < (b.length : Int)) (hbd : ∀ a, a < b.length → - 8000000 ≤ b.getD a 0 ∧ b.getD a 0 ≤ 8000000)
  (hbp : ∀ j k, j < E0.length → k < E0.length → (gL E0 j).1 ≠ (gL E0 k).2.1) (h : slv b E0 = some Y) : Pure prog 69 [nl b, lkA E0] (.tup [lkA Y, .bool true]) := by
 have hs := slv_sol h
 have lY := lks_no Y
 refine rsettled_run hb hb2 hk8 hk1 hz hr hbd hbp ⟨⟨lY, fun _ h => nomatch h⟩, trivial, trivial⟩ (fun z => absurd ⟨hs.1, Y, hs.2⟩ z) fun Y' hf hY' => ?_
 rw [hf.uniq hr hY' hs.2]
theorem rsettled_none {b : List Int} {E0 : List LkI} (hb : b.length ≤ 5) (hb2 : 2 ≤ b.length) (hk8 : E0.length ≤ 8) (hk1 : 1 ≤ E0.length) (hz : ∀ i, i < E0.length → (gL E0 i).2.2 = 0) (hr : ∀ i, i < E0.length → (gL E0 i).1 ≠ (gL E0 i).2.1 ∧ ∀ a, tch (gL E0 i) a → 0 ≤ a ∧ a < (b.length : Int)) (hbd : ∀ a, a < b.length → - 8000000 ≤ b.getD a 0 ∧ b.getD a 0 ≤ 8000000)
  (hbp : ∀ j k, j < E0.length → k < E0.length → (gL E0 j).1 ≠ (gL E0 k).2.1) (h : slv b E0 = none) : Pure prog 69 [nl b, lkA E0] (.tup [.nils, .bool false]) :=
 rsettled_run hb hb2 hk8 hk1 hz hr hbd hbp ⟨trivial, trivial, trivial⟩ (fun _ => rfl) fun Y hf hY => absurd ⟨hf, Y, hY⟩ (slv_none.1 h)
end
end Go.Abs.Seat
