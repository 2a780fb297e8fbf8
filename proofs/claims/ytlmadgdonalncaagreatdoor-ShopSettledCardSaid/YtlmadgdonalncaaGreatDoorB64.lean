/-
  Books of accounts: what is as defined, balances, and equal settlements, as the document says.
-/
import Derived.Test.YtlmadgdonalncaaGreatDoorB63
import Derived.Test.YtlmadgdonalncaaGreatDoorU7
/-! Books of accounts: what is as defined, balances, and equal settlements, as the document says. -/
namespace Go.Abs.Seat
noncomputable section
open Go Go.Abs Go.Proofs.Tryz
set_option maxRecDepth 100000
set_option maxHeartbeats 40000000
attribute [local irreducible] IntKind.wrap pEq

abbrev enA (e : LkI) : AV := .agg [iv e.1, iv e.2.1, iv e.2.2]
theorem eqEn (cst : Bool) (x y : LkI) : q0 38 cst (enA x) (enA y) = @Bool.rec (fun _ => Option Bool) (some false) (@Bool.rec (fun _ => Option Bool) (some false) (@Bool.rec (fun _ => Option Bool) (some false) (some true) (x.2.2 == y.2.2)) (x.2.1 == y.2.1)) (x.1 == y.1) := by kernel_rfl
theorem eqEn_same (cst : Bool) {x y : LkI} (h : x = y) : q0 38 cst (enA x) (enA y) = some true := by
 subst h
 rw [eqEn, beq_self_eq_true x.1, beq_self_eq_true x.2.1, beq_self_eq_true x.2.2]
theorem eqEn_ne (cst : Bool) {x y : LkI} (h : x ≠ y) : q0 38 cst (enA x) (enA y) = some false := by
 rw [eqEn]
 by_cases h1 : x.1 = y.1
 ·rw [beq_iff_eq.2 h1]
  by_cases h2 : x.2.1 = y.2.1
  ·rw [beq_iff_eq.2 h2]
   have h3 : x.2.2 ≠ y.2.2 := fun z => h (Prod.ext h1 (Prod.ext h2 z))
   rw [beq_eq_false_iff_ne.2 h3]
  ·rw [beq_eq_false_iff_ne.2 h2]
 ·rw [beq_eq_false_iff_ne.2 h1]
theorem sameE_L (A B : List LkI) (hA : A.length ≤ 1000) {c : Bool} (hc : c = true ↔ A = B) : Pure prog 19 [lkA A, lkA B] (.bool c) := by
 have lA := lks_no A
 have lB := lks_no B
 by_cases hl : A.length = B.length
 ·have c0 : ((A.length : Int) != (B.length : Int)) = false := by rw [hl]; exact bne_self_eq_false _
  refine pure_sym hE rfl (by repeat' (first | exact trivial | assumption | exact flat_no _ | exact (fun _ h => nomatch h) | apply And.intro)) (by repeat' (first | exact trivial | assumption | exact flat_no _ | exact (fun _ h => nomatch h) | apply And.intro)) fun S q pc hS hq hC hE => ?_
  conv => whnf
  repeat ((first
   |refine ko_sT c0 ?_
   |refine ko_rF c0 ?_
   |refine plan_as (pick_f c0) ?_
   |refine bool_false c0 ?_
   |refine sym_drawn hS (by kernel_rfl) ?_); conv => whnf)
  refine sym_loopG hE hS (A := Nat) [0, 1] (fun i => [(5, nv i)]) (fun _ => []) (fun _ => []) (fun i => i ≤ A.length ∧ ∀ j, j < i → gL A j = gL B j) (fun i => A.length - i) 0 (Nat.le_of_ble_eq_true rfl) rfl (by refine ⟨rfl, rfl, rfl, rfl, rfl, rfl, 0, rfl, ?_, ?_⟩ <;> repeat' (first | exact trivial | exact rfl | exact ⟨_, rfl, WkV.refl _⟩ | exact ⟨_, rfl, WkV.own _ _ _⟩ | exact Nat.zero_le _ | exact bdl_no lA | exact bdl_no lB | exact Nat.le_of_ble_eq_true rfl | exact bdl_no (by assumption) | exact bdl_no (flat_no _) | exact bdl_no (ivs_no _) | exact bdl_no (svs_no _) | exact Nat.max_le.2 ⟨Nat.le_of_ble_eq_true rfl, bdl_no (ivs_no _)⟩ | exact Nat.max_le.2 ⟨Nat.le_of_ble_eq_true rfl, bdl_no (svs_no _)⟩ | apply And.intro)) ⟨Nat.zero_le _, fun _ h => absurd h (Nat.not_lt_zero _)⟩ ?_
  intro i ⟨hi, hj⟩ K hK
  obtain rfl : K = 0 := hK
  conv => whnf
  by_cases h : i < A.length
  ·have h2 : i < B.length := by omega
   refine bool_true (ltN_t h) ?_
   conv => whnf
   repeat ((first
    |refine plan_as (takP (tak_lk A h)) ?_
    |refine plan_as (takP (tak_lk B h2)) ?_
    |refine ko_rT (inR_t h) ?_
    |refine ko_sF (inR_t h) ?_
    |refine plan_as (pick_t (inR_t h)) ?_
    |refine bool_true (inR_t h) ?_
    |refine ko_rT (inR_t h2) ?_
    |refine ko_sF (inR_t h2) ?_
    |refine plan_as (pick_t (inR_t h2)) ?_
    |refine bool_true (inR_t h2) ?_
    |refine sym_drawn hS (by kernel_rfl) ?_); conv => whnf)
   by_cases e : gL A i = gL B i
   ·refine sym_eq hq true (eqEn_same _ e) ?_
    conv => whnf
    refine sym_drawn hS (by kernel_rfl) ?_
    conv => whnf
    exact ⟨i + 1, ⟨h, fun j k => by
     by_cases z : j = i
     ·rw [z]; exact e
     ·exact hj j (by omega)⟩, by omega, Nat.le_refl _, (by refine ⟨rfl, rfl, rfl, rfl, rfl, rfl, 0, rfl, ?_, ?_⟩ <;> repeat' (first | exact trivial | exact rfl | exact ⟨_, rfl, WkV.refl _⟩ | exact ⟨_, rfl, WkV.own _ _ _⟩ | exact Nat.zero_le _ | exact ⟨_, rfl, WkV.int (show IntKind.i64.wrap (Int.ofNat i + 1) = Int.ofNat (i + 1) from wrapN (m := i + 1) (by omega))⟩ | exact bdl_no lA | exact bdl_no lB | exact Nat.le_of_ble_eq_true rfl | exact bdl_no (by assumption) | exact bdl_no (flat_no _) | exact bdl_no (ivs_no _) | exact bdl_no (svs_no _) | exact Nat.max_le.2 ⟨Nat.le_of_ble_eq_true rfl, bdl_no (ivs_no _)⟩ | exact Nat.max_le.2 ⟨Nat.le_of_ble_eq_true rfl, bdl_no (svs_no _)⟩ | apply And.intro))⟩
   ·refine sym_eq hq false (eqEn_ne _ e) ?_
    conv => whnf
    refine sym_drawn hS (by kernel_rfl) ?_
    conv => whnf
    have c1 : c = false := Bool.eq_false_iff.2 fun z => e (by rw [hc.1 z])
    rw [c1]
    exact ⟨_, rfl, Wk.refl _⟩
  ·refine bool_false (ltN_f h) ?_
   conv => whnf
   refine .inl ?_
   conv => whnf
   rw [hc.2 (gL_ext hl fun j k => hj j (by omega))]
   exact ⟨_, rfl, Wk.refl _⟩
 ·have c0 : ((A.length : Int) != (B.length : Int)) = true := bne_iff_ne.2 fun z => hl (Int.ofNat.inj z)
  have c1 : c = false := Bool.eq_false_iff.2 fun z => hl (by rw [hc.1 z])
  rw [c1]
  refine pure_sym hE rfl (by repeat' (first | exact trivial | assumption | exact flat_no _ | exact (fun _ h => nomatch h) | apply And.intro)) (by repeat' (first | exact trivial | assumption | exact flat_no _ | exact (fun _ h => nomatch h) | apply And.intro)) fun S q pc hS hq hC hE => ?_
  conv => whnf
  repeat ((first
   |refine ko_rT c0 ?_
   |refine ko_sF c0 ?_
   |refine plan_as (pick_t c0) ?_
   |refine bool_true c0 ?_
   |refine sym_drawn hS (by kernel_rfl) ?_); conv => whnf)
  exact ⟨_, rfl, Wk.refl _⟩
theorem sameE_nn : Pure prog 19 [.nils, .nils] (.bool true) := by
 refine pure_sym hE rfl (by repeat' (first | exact trivial | assumption | exact flat_no _ | exact (fun _ h => nomatch h) | apply And.intro)) (by repeat' (first | exact trivial | assumption | exact flat_no _ | exact (fun _ h => nomatch h) | apply And.intro)) fun S q pc hS hq hC hE => ?_
 conv => whnf
 refine sym_unroll hE hS ?_
 conv => whnf
 exact ⟨_, rfl, Wk.refl _⟩
theorem sameE_nl {B : List LkI} (hB : B ≠ []) : Pure prog 19 [.nils, lkA B] (.bool false) := by
 have lB := lks_no B
 have c0 : ((0 : Int) != (B.length : Int)) = true := bne_iff_ne.2 fun z => hB (List.length_eq_zero_iff.1 (by omega))
 refine pure_sym hE rfl (by repeat' (first | exact trivial | assumption | exact flat_no _ | exact (fun _ h => nomatch h) | apply And.intro)) (by repeat' (first | exact trivial | assumption | exact flat_no _ | exact (fun _ h => nomatch h) | apply And.intro)) fun S q pc hS hq hC hE => ?_
 conv => whnf
 repeat ((first
  |refine ko_rT c0 ?_
  |refine ko_sF c0 ?_
  |refine plan_as (pick_t c0) ?_
  |refine bool_true c0 ?_
  |refine sym_drawn hS (by kernel_rfl) ?_); conv => whnf)
 exact ⟨_, rfl, Wk.refl _⟩
theorem sameE_ln {A : List LkI} (hA : A ≠ []) : Pure prog 19 [lkA A, .nils] (.bool false) := by
 have lA := lks_no A
 have c0 : ((A.length : Int) != (0 : Int)) = true := bne_iff_ne.2 fun z => hA (List.length_eq_zero_iff.1 (by omega))
 refine pure_sym hE rfl (by repeat' (first | exact trivial | assumption | exact flat_no _ | exact (fun _ h => nomatch h) | apply And.intro)) (by repeat' (first | exact trivial | assumption | exact flat_no _ | exact (fun _ h => nomatch h) | apply And.intro)) fun S q pc hS hq hC hE => ?_
 conv => whnf
 repeat ((first
  |refine ko_rT c0 ?_
  |refine ko_sF c0 ?_
  |refine plan_as (pick_t c0) ?_
  |refine bool_true c0 ?_
  |refine sym_drawn hS (by kernel_rfl) ?_); conv => whnf)
 exact ⟨_, rfl, Wk.refl _⟩
theorem sameE_l0 : Pure prog 19 [lkA [], .nils] (.bool true) := by
 refine pure_sym hE rfl (by repeat' (first | exact trivial | assumption | exact flat_no _ | exact (fun _ h => nomatch h) | apply And.intro)) (by repeat' (first | exact trivial | assumption | exact flat_no _ | exact (fun _ h => nomatch h) | apply And.intro)) fun S q pc hS hq hC hE => ?_
 conv => whnf
 refine sym_unroll hE hS ?_
 conv => whnf
 exact ⟨_, rfl, Wk.refl _⟩
theorem sameE_self (l : List LkI) (hl : l.length ≤ 1000) : Pure prog 19 [enV l, enV l] (.bool true) := by
 unfold enV
 split
 ·exact sameE_nn
 ·exact sameE_L l l hl ⟨fun _ => rfl, fun _ => rfl⟩
theorem sameE_x {x : AV} {L : List LkI} (hx : LL x L) (hl : L.length ≤ 1000) (R : List LkI) {c : Bool} (hc : c = true ↔ L = R) : Pure prog 19 [x, enV R] (.bool c) := by
 unfold enV
 rcases hx with ⟨rfl, rfl⟩ | rfl
 ·split
  ·rename_i h
   rw [hc.2 h.symm]; exact sameE_nn
  ·rename_i h
   rw [Bool.eq_false_iff.2 fun z => h (hc.1 z).symm]; exact sameE_nl h
 ·split
  ·rename_i h
   by_cases e : L = []
   ·rw [hc.2 (e.trans h.symm), e]; exact sameE_l0
   ·rw [Bool.eq_false_iff.2 fun z => e ((hc.1 z).trans h)]; exact sameE_ln e
  ·exact sameE_L L R hl hc
def enW (w : Int) (e : LkI) : Prop := (0 ≤ e.1 ∧ e.1 ≤ w) ∧ (0 ≤ e.2.1 ∧ e.2.1 ≤ w) ∧ e.1 ≠ e.2.1 ∧ 0 ≤ e.2.2 ∧ e.2.2 ≤ 1000000
theorem rBook_pure {x : AV} {L : List LkI} (hx : LL x L) (a : Int) (hl : L.length ≤ 10) : Pure prog 16 [iv a, x] (.bool (decide (bkOk a L))) := by
 obtain ⟨w, hw⟩ : ∃ w, w = IntKind.i64.wrap (a - 1) := ⟨_, rfl⟩
 have key : ∀ B : Bool, (B = true ↔ (∀ j, j < L.length → enW w (gL L j)) ∧ (2 ≤ a ∧ a ≤ 5) ∧ L.length ≤ 8) → decide (bkOk a L) = B := fun B hB => by
  cases B with
  |true =>
   obtain ⟨h1, h2, h3⟩ := hB.1 rfl
   refine decide_eq_true ⟨h2, h3, fun j hj => ?_⟩
   have := h1 j hj
   rw [hw, wrapI (by omega) (by omega)] at this
   unfold enW at this
   unfold enOk
   omega
  |false =>
   refine decide_eq_false fun z => ?_
   have hh := z.1
   have : (false : Bool) = true := hB.2 ⟨fun j hj => by
    have := z.2.2 j hj
    rw [hw, wrapI (by omega) (by omega)]
    unfold enOk at this
    unfold enW
    omega, z.1, z.2.1⟩
   cases this
 obtain ⟨B, hB⟩ : ∃ B, decide (bkOk a L) = B := ⟨_, rfl⟩
 rw [hB]
 have lx := hx.no
 have ht : ∀ B', (B' = true ↔ (∀ j, j < L.length → enW w (gL L j)) ∧ (2 ≤ a ∧ a ≤ 5) ∧ L.length ≤ 8) → B' = B := fun B' h => (key B' h).symm.trans hB
 rcases hx with ⟨rfl, rfl⟩ | rfl
 ·by_cases ha : 2 ≤ a ∧ a ≤ 5
  ·have k1 : decide (2 ≤ a ∧ a ≤ 5) = true := decide_eq_true ha
   rw [← ht true ⟨fun _ => ⟨fun j h => absurd h (Nat.not_lt_zero _), ha, Nat.zero_le _⟩, fun _ => rfl⟩]
   refine pure_sym hE rfl (by repeat' (first | exact trivial | assumption | exact flat_no _ | exact (fun _ h => nomatch h) | apply And.intro)) (by repeat' (first | exact trivial | assumption | exact flat_no _ | exact (fun _ h => nomatch h) | apply And.intro)) fun S q pc hS hq hC hE => ?_
   conv => whnf
   refine sym_unroll hE hS ?_
   conv => whnf
   repeat ((first
    |refine ko_rT k1 ?_
    |refine ko_sF k1 ?_
    |refine plan_as (pick_t k1) ?_
    |refine bool_true k1 ?_
    |refine ko_rT (gd_tt k1) ?_
    |refine ko_sF (gd_tt k1) ?_
    |refine plan_as (pick_t (gd_tt k1)) ?_
    |refine bool_true (gd_tt k1) ?_
    |refine sym_pure hC (in9_pure a 2 5) ?_
    |refine sym_drawn hS (by kernel_rfl) ?_); conv => whnf)
   exact ⟨_, rfl, Wk.refl _⟩
  ·have k1 : decide (2 ≤ a ∧ a ≤ 5) = false := decide_eq_false ha
   rw [← ht false ⟨fun z => (nomatch z), fun z => absurd z.2.1 ha⟩]
   refine pure_sym hE rfl (by repeat' (first | exact trivial | assumption | exact flat_no _ | exact (fun _ h => nomatch h) | apply And.intro)) (by repeat' (first | exact trivial | assumption | exact flat_no _ | exact (fun _ h => nomatch h) | apply And.intro)) fun S q pc hS hq hC hE => ?_
   conv => whnf
   refine sym_unroll hE hS ?_
   conv => whnf
   repeat ((first
    |refine ko_sT k1 ?_
    |refine ko_rF k1 ?_
    |refine plan_as (pick_f k1) ?_
    |refine bool_false k1 ?_
    |refine ko_sT (gd_tf k1) ?_
    |refine ko_rF (gd_tf k1) ?_
    |refine plan_as (pick_f (gd_tf k1)) ?_
    |refine bool_false (gd_tf k1) ?_
    |refine sym_pure hC (in9_pure a 2 5) ?_
    |refine sym_drawn hS (by kernel_rfl) ?_); conv => whnf)
   exact ⟨_, rfl, Wk.refl _⟩
 ·have lL := lks_no L
  refine pure_sym hE rfl (by repeat' (first | exact trivial | assumption | exact flat_no _ | exact (fun _ h => nomatch h) | apply And.intro)) (by repeat' (first | exact trivial | assumption | exact flat_no _ | exact (fun _ h => nomatch h) | apply And.intro)) fun S q pc hS hq hC hE => ?_
  conv => whnf
  refine sym_loopG hE hS (A := Nat) [0, 1] (fun i => [(5, nv i)]) (fun _ => []) (fun _ => []) (fun i => i ≤ L.length ∧ ∀ j, j < i → enW w (gL L j)) (fun i => L.length - i) 0 (Nat.le_of_ble_eq_true rfl) rfl (by refine ⟨rfl, rfl, rfl, rfl, rfl, rfl, 0, rfl, ?_, ?_⟩ <;> repeat' (first | exact trivial | exact rfl | exact ⟨_, rfl, WkV.refl _⟩ | exact ⟨_, rfl, WkV.own _ _ _⟩ | exact Nat.zero_le _ | exact bdl_no lL | exact Nat.le_of_ble_eq_true rfl | exact bdl_no (by assumption) | exact bdl_no (flat_no _) | exact bdl_no (ivs_no _) | exact bdl_no (svs_no _) | exact Nat.max_le.2 ⟨Nat.le_of_ble_eq_true rfl, bdl_no (ivs_no _)⟩ | exact Nat.max_le.2 ⟨Nat.le_of_ble_eq_true rfl, bdl_no (svs_no _)⟩ | apply And.intro)) ⟨Nat.zero_le _, fun _ h => absurd h (Nat.not_lt_zero _)⟩ ?_
  intro i ⟨hi, hj⟩ K hK
  obtain rfl : K = 0 := hK
  conv => whnf
  by_cases hi2 : i < L.length
  ·have g0 := nth_lks L i hi2
   have g1 := nth_lk1 L i hi2
   have g2 := nth_lk2 L i hi2
   have hi1 : IntKind.i64.wrap (Int.ofNat i + 1) = Int.ofNat (i + 1) := wrapN (m := i + 1) (by omega)
   have bad : ¬ enW w (gL L i) → false = B := fun z => ht false ⟨fun k => (nomatch k), fun k => absurd (k.1 i hi2) z⟩
   have p0 := in9_pure (gL L i).1 0 (IntKind.i64.wrap (a - 1))
   have p1 := in9_pure (gL L i).2.1 0 (IntKind.i64.wrap (a - 1))
   have p2 := in9_pure (gL L i).2.2 0 1000000
   by_cases q0 : 0 ≤ (gL L i).1 ∧ (gL L i).1 ≤ w
   ·have c0 : (!decide (0 ≤ (gL L i).1 ∧ (gL L i).1 ≤ IntKind.i64.wrap (a - 1))) = false := nt_t (decide_eq_true (hw ▸ q0))
    by_cases q1 : 0 ≤ (gL L i).2.1 ∧ (gL L i).2.1 ≤ w
    ·have c1 : (!decide (0 ≤ (gL L i).2.1 ∧ (gL L i).2.1 ≤ IntKind.i64.wrap (a - 1))) = false := nt_t (decide_eq_true (hw ▸ q1))
     by_cases q2 : (gL L i).1 = (gL L i).2.1
     ·have c2 : ((gL L i).1 == (gL L i).2.1) = true := beq_iff_eq.2 q2
      repeat ((first
       |refine plan_as (nthP g0) ?_
       |refine plan_as (nthP g1) ?_
       |refine ko_rT (ltN_t hi2) ?_
       |refine ko_sF (ltN_t hi2) ?_
       |refine plan_as (pick_t (ltN_t hi2)) ?_
       |refine bool_true (ltN_t hi2) ?_
       |refine ko_sT (ltN_t hi2) ?_
       |refine ko_rF (ltN_t hi2) ?_
       |refine plan_as (pick_f (ltN_t hi2)) ?_
       |refine bool_false (ltN_t hi2) ?_
       |refine ko_rT (inR_t hi2) ?_
       |refine ko_sF (inR_t hi2) ?_
       |refine plan_as (pick_t (inR_t hi2)) ?_
       |refine bool_true (inR_t hi2) ?_
       |refine ko_sT c0 ?_
       |refine ko_rF c0 ?_
       |refine plan_as (pick_f c0) ?_
       |refine bool_false c0 ?_
       |refine ko_rT (gff c0) ?_
       |refine ko_sF (gff c0) ?_
       |refine plan_as (pick_t (gff c0)) ?_
       |refine bool_true (gff c0) ?_
       |refine ko_sT c1 ?_
       |refine ko_rF c1 ?_
       |refine plan_as (pick_f c1) ?_
       |refine bool_false c1 ?_
       |refine ko_rT (gff c1) ?_
       |refine ko_sF (gff c1) ?_
       |refine plan_as (pick_t (gff c1)) ?_
       |refine bool_true (gff c1) ?_
       |refine ko_rT c2 ?_
       |refine ko_sF c2 ?_
       |refine plan_as (pick_t c2) ?_
       |refine bool_true c2 ?_
       |refine ko_sT (gft c2) ?_
       |refine ko_rF (gft c2) ?_
       |refine plan_as (pick_f (gft c2)) ?_
       |refine bool_false (gft c2) ?_
       |refine sym_pure hC (p0) ?_
       |refine sym_pure hC (p1) ?_
       |refine sym_drawn hS (by kernel_rfl) ?_); conv => whnf)
      rw [← bad fun z => z.2.2.1 q2]
      exact ⟨_, rfl, Wk.refl _⟩
     ·have c2 : ((gL L i).1 == (gL L i).2.1) = false := beq_eq_false_iff_ne.2 q2
      by_cases q3 : 0 ≤ (gL L i).2.2 ∧ (gL L i).2.2 ≤ 1000000
      ·have c3 : (!decide (0 ≤ (gL L i).2.2 ∧ (gL L i).2.2 ≤ 1000000)) = false := nt_t (decide_eq_true q3)
       repeat ((first
        |refine plan_as (nthP g0) ?_
        |refine plan_as (nthP g1) ?_
        |refine plan_as (nthP g2) ?_
        |refine ko_rT (ltN_t hi2) ?_
        |refine ko_sF (ltN_t hi2) ?_
        |refine plan_as (pick_t (ltN_t hi2)) ?_
        |refine bool_true (ltN_t hi2) ?_
        |refine ko_sT (ltN_t hi2) ?_
        |refine ko_rF (ltN_t hi2) ?_
        |refine plan_as (pick_f (ltN_t hi2)) ?_
        |refine bool_false (ltN_t hi2) ?_
        |refine ko_rT (inR_t hi2) ?_
        |refine ko_sF (inR_t hi2) ?_
        |refine plan_as (pick_t (inR_t hi2)) ?_
        |refine bool_true (inR_t hi2) ?_
        |refine ko_sT c0 ?_
        |refine ko_rF c0 ?_
        |refine plan_as (pick_f c0) ?_
        |refine bool_false c0 ?_
        |refine ko_rT (gff c0) ?_
        |refine ko_sF (gff c0) ?_
        |refine plan_as (pick_t (gff c0)) ?_
        |refine bool_true (gff c0) ?_
        |refine ko_sT c1 ?_
        |refine ko_rF c1 ?_
        |refine plan_as (pick_f c1) ?_
        |refine bool_false c1 ?_
        |refine ko_rT (gff c1) ?_
        |refine ko_sF (gff c1) ?_
        |refine plan_as (pick_t (gff c1)) ?_
        |refine bool_true (gff c1) ?_
        |refine ko_sT c2 ?_
        |refine ko_rF c2 ?_
        |refine plan_as (pick_f c2) ?_
        |refine bool_false c2 ?_
        |refine ko_rT (gff c2) ?_
        |refine ko_sF (gff c2) ?_
        |refine plan_as (pick_t (gff c2)) ?_
        |refine bool_true (gff c2) ?_
        |refine ko_sT c3 ?_
        |refine ko_rF c3 ?_
        |refine plan_as (pick_f c3) ?_
        |refine bool_false c3 ?_
        |refine sym_pure hC (p0) ?_
        |refine sym_pure hC (p1) ?_
        |refine sym_pure hC (p2) ?_
        |refine sym_drawn hS (by kernel_rfl) ?_); conv => whnf)
       exact ⟨i + 1, ⟨hi2, fun j k => by
        by_cases z : j = i
        ·rw [z]; exact ⟨q0, q1, q2, q3⟩
        ·exact hj j (by omega)⟩, by omega, Nat.le_refl _, (by refine ⟨rfl, rfl, rfl, rfl, rfl, rfl, 0, rfl, ?_, ?_⟩ <;> repeat' (first | exact trivial | exact rfl | exact ⟨_, rfl, WkV.refl _⟩ | exact ⟨_, rfl, WkV.own _ _ _⟩ | exact Nat.zero_le _ | exact ⟨_, rfl, WkV.int hi1⟩ | exact bdl_no lL | exact Nat.le_of_ble_eq_true rfl | exact bdl_no (by assumption) | exact bdl_no (flat_no _) | exact bdl_no (ivs_no _) | exact bdl_no (svs_no _) | exact Nat.max_le.2 ⟨Nat.le_of_ble_eq_true rfl, bdl_no (ivs_no _)⟩ | exact Nat.max_le.2 ⟨Nat.le_of_ble_eq_true rfl, bdl_no (svs_no _)⟩ | apply And.intro))⟩
      ·have c3 : (!decide (0 ≤ (gL L i).2.2 ∧ (gL L i).2.2 ≤ 1000000)) = true := nt_f (decide_eq_false q3)
       repeat ((first
        |refine plan_as (nthP g0) ?_
        |refine plan_as (nthP g1) ?_
        |refine plan_as (nthP g2) ?_
        |refine ko_rT (ltN_t hi2) ?_
        |refine ko_sF (ltN_t hi2) ?_
        |refine plan_as (pick_t (ltN_t hi2)) ?_
        |refine bool_true (ltN_t hi2) ?_
        |refine ko_sT (ltN_t hi2) ?_
        |refine ko_rF (ltN_t hi2) ?_
        |refine plan_as (pick_f (ltN_t hi2)) ?_
        |refine bool_false (ltN_t hi2) ?_
        |refine ko_rT (inR_t hi2) ?_
        |refine ko_sF (inR_t hi2) ?_
        |refine plan_as (pick_t (inR_t hi2)) ?_
        |refine bool_true (inR_t hi2) ?_
        |refine ko_sT c0 ?_
        |refine ko_rF c0 ?_
        |refine plan_as (pick_f c0) ?_
        |refine bool_false c0 ?_
        |refine ko_rT (gff c0) ?_
        |refine ko_sF (gff c0) ?_
        |refine plan_as (pick_t (gff c0)) ?_
        |refine bool_true (gff c0) ?_
        |refine ko_sT c1 ?_
        |refine ko_rF c1 ?_
        |refine plan_as (pick_f c1) ?_
        |refine bool_false c1 ?_
        |refine ko_rT (gff c1) ?_
        |refine ko_sF (gff c1) ?_
        |refine plan_as (pick_t (gff c1)) ?_
        |refine bool_true (gff c1) ?_
        |refine ko_sT c2 ?_
        |refine ko_rF c2 ?_
        |refine plan_as (pick_f c2) ?_
        |refine bool_false c2 ?_
        |refine ko_rT (gff c2) ?_
        |refine ko_sF (gff c2) ?_
        |refine plan_as (pick_t (gff c2)) ?_
        |refine bool_true (gff c2) ?_
        |refine ko_rT c3 ?_
        |refine ko_sF c3 ?_
        |refine plan_as (pick_t c3) ?_
        |refine bool_true c3 ?_
        |refine sym_pure hC (p0) ?_
        |refine sym_pure hC (p1) ?_
        |refine sym_pure hC (p2) ?_
        |refine sym_drawn hS (by kernel_rfl) ?_); conv => whnf)
       rw [← bad fun z => q3 z.2.2.2]
       exact ⟨_, rfl, Wk.refl _⟩
    ·have c1 : (!decide (0 ≤ (gL L i).2.1 ∧ (gL L i).2.1 ≤ IntKind.i64.wrap (a - 1))) = true := nt_f (decide_eq_false (hw ▸ q1))
     repeat ((first
      |refine plan_as (nthP g0) ?_
      |refine plan_as (nthP g1) ?_
      |refine ko_rT (ltN_t hi2) ?_
      |refine ko_sF (ltN_t hi2) ?_
      |refine plan_as (pick_t (ltN_t hi2)) ?_
      |refine bool_true (ltN_t hi2) ?_
      |refine ko_sT (ltN_t hi2) ?_
      |refine ko_rF (ltN_t hi2) ?_
      |refine plan_as (pick_f (ltN_t hi2)) ?_
      |refine bool_false (ltN_t hi2) ?_
      |refine ko_rT (inR_t hi2) ?_
      |refine ko_sF (inR_t hi2) ?_
      |refine plan_as (pick_t (inR_t hi2)) ?_
      |refine bool_true (inR_t hi2) ?_
      |refine ko_sT c0 ?_
      |refine ko_rF c0 ?_
      |refine plan_as (pick_f c0) ?_
      |refine bool_false c0 ?_
      |refine ko_rT (gff c0) ?_
      |refine ko_sF (gff c0) ?_
      |refine plan_as (pick_t (gff c0)) ?_
      |refine bool_true (gff c0) ?_
      |refine ko_rT c1 ?_
      |refine ko_sF c1 ?_
      |refine plan_as (pick_t c1) ?_
      |refine bool_true c1 ?_
      |refine ko_sT (gft c1) ?_
      |refine ko_rF (gft c1) ?_
      |refine plan_as (pick_f (gft c1)) ?_
      |refine bool_false (gft c1) ?_
      |refine sym_pure hC (p0) ?_
      |refine sym_pure hC (p1) ?_
      |refine sym_drawn hS (by kernel_rfl) ?_); conv => whnf)
     rw [← bad fun z => q1 z.2.1]
     exact ⟨_, rfl, Wk.refl _⟩
   ·have c0 : (!decide (0 ≤ (gL L i).1 ∧ (gL L i).1 ≤ IntKind.i64.wrap (a - 1))) = true := nt_f (decide_eq_false (hw ▸ q0))
    repeat ((first
     |refine plan_as (nthP g0) ?_
     |refine ko_rT (ltN_t hi2) ?_
     |refine ko_sF (ltN_t hi2) ?_
     |refine plan_as (pick_t (ltN_t hi2)) ?_
     |refine bool_true (ltN_t hi2) ?_
     |refine ko_sT (ltN_t hi2) ?_
     |refine ko_rF (ltN_t hi2) ?_
     |refine plan_as (pick_f (ltN_t hi2)) ?_
     |refine bool_false (ltN_t hi2) ?_
     |refine ko_rT (inR_t hi2) ?_
     |refine ko_sF (inR_t hi2) ?_
     |refine plan_as (pick_t (inR_t hi2)) ?_
     |refine bool_true (inR_t hi2) ?_
     |refine ko_rT c0 ?_
     |refine ko_sF c0 ?_
     |refine plan_as (pick_t c0) ?_
     |refine bool_true c0 ?_
     |refine ko_sT (gft c0) ?_
     |refine ko_rF (gft c0) ?_
     |refine plan_as (pick_f (gft c0)) ?_
     |refine bool_false (gft c0) ?_
     |refine sym_pure hC (p0) ?_
     |refine sym_drawn hS (by kernel_rfl) ?_); conv => whnf)
    rw [← bad fun z => q0 z.1]
    exact ⟨_, rfl, Wk.refl _⟩
  ·refine bool_false (ltN_f hi2) ?_
   conv => whnf
   refine .inl ?_
   conv => whnf
   by_cases ha : 2 ≤ a ∧ a ≤ 5
   ·have k1 : decide (2 ≤ a ∧ a ≤ 5) = true := decide_eq_true ha
    have hB' : decide ((L.length : Int) ≤ 8) = B := ht _ ⟨fun z => ⟨fun j k => hj j (by omega), ha, by have := of_decide_eq_true z; omega⟩, fun z => decide_eq_true (by have := z.2.2; omega)⟩
    rw [← hB']
    repeat ((first
     |refine ko_rT k1 ?_
     |refine ko_sF k1 ?_
     |refine plan_as (pick_t k1) ?_
     |refine bool_true k1 ?_
     |refine ko_rT (gd_tt k1) ?_
     |refine ko_sF (gd_tt k1) ?_
     |refine plan_as (pick_t (gd_tt k1)) ?_
     |refine bool_true (gd_tt k1) ?_
     |refine sym_pure hC (in9_pure a 2 5) ?_
     |refine sym_drawn hS (by kernel_rfl) ?_); conv => whnf)
    exact ⟨_, rfl, Wk.refl _⟩
   ·have k1 : decide (2 ≤ a ∧ a ≤ 5) = false := decide_eq_false ha
    rw [← ht false ⟨fun z => (nomatch z), fun z => absurd z.2.1 ha⟩]
    repeat ((first
     |refine ko_sT k1 ?_
     |refine ko_rF k1 ?_
     |refine plan_as (pick_f k1) ?_
     |refine bool_false k1 ?_
     |refine ko_sT (gd_tf k1) ?_
     |refine ko_rF (gd_tf k1) ?_
     |refine plan_as (pick_f (gd_tf k1)) ?_
     |refine bool_false (gd_tf k1) ?_
     |refine sym_pure hC (in9_pure a 2 5) ?_
     |refine sym_drawn hS (by kernel_rfl) ?_); conv => whnf)
    exact ⟨_, rfl, Wk.refl _⟩
end
end Go.Abs.Seat
