/-
  The law ShopSettled: no entries; what is not as defined.
-/
import Derived.Test.YtlmadgdonalncaaGreatDoorL40
/-! The law ShopSettled: no entries; what is not as defined. -/
namespace Go.Abs.Seat
noncomputable section
open Go Go.Abs Go.Proofs.Tryz
set_option maxRecDepth 100000
set_option maxHeartbeats 40000000
attribute [local irreducible] IntKind.wrap pEq pSlice

theorem zero_NL (known : Pure prog 13 [] (.bool true)) {O : List LkI} (hO : O.length ≤ 10) {k : Nat} (h : bkOk (Int.ofNat k) []) (hRz : BkS (blL [] k) []) : Pure prog 4 [nv k, .nils, lkA O, nv 0] (.bool true) := by
 obtain ⟨R, hR0⟩ : ∃ R : List LkI, R = [] := ⟨_, rfl⟩
 have hR10 : R.length ≤ 10 := by rw [hR0]; exact Nat.zero_le _
 have hR : BkS (blL [] k) R := by rw [hR0]; exact hRz
 obtain ⟨L, hL0⟩ : ∃ L : List LkI, L = [] := ⟨_, rfl⟩
 obtain ⟨p, hp0⟩ : ∃ p : Nat, p = 0 := ⟨_, rfl⟩
 have hL : L.length ≤ 10 := by rw [hL0]; exact Nat.zero_le _
 have hp : p ≤ L.length := by rw [hp0]; exact Nat.zero_le _
 have e0 : trn L p = [] := List.length_eq_zero_iff.1 (by rw [trn_len, hL0]; rfl)
 rw [← hL0] at h hR
 clear hRz
 have hx : LL .nils L := .inl ⟨rfl, hL0⟩
 have hy : LL (lkA O) O := .inr rfl
 have lL := lks_no L
 have lO := lks_no O
 have hk5 : 2 ≤ k ∧ k ≤ 5 := ⟨Int.ofNat_le.1 h.1.1, Int.ofNat_le.1 h.1.2⟩
 have pK := rBook_pure hx (Int.ofNat k) hL
 rw [decide_eq_true h] at pK
 have hs0 := bk_sum h
 have hbd := bk_bd h
 have pB := sBalances_yes hx h
 rw [show (Int.ofNat k).toNat = k from rfl] at pB
 have pS := settle_run hx h rfl hs0 hbd hR
 have hbT := trn_bk h p
 have hbt := trn_bal L p k
 have lb := ivs_no (blL L k)
 have hbl := blL_len L k
 have pQ := same_pure (blL L k) (blL L k) (by rw [hbl]; omega) (b := true) ⟨fun _ => rfl, fun _ => rfl⟩
 have pE := sameE_self R (by omega)
 have pSt := rStl_pure (by rw [hbl]; exact hk5) hbd (x := enV R) (L := R) (enV_LL R) hR10 (B := true) ⟨fun _ => st_stP (by rw [hbl]; exact hk5.2) hbd hR.st, fun _ => rfl⟩
 have pO1 : stP (blL L k) O → _ := fun hst => rStl_pure (by rw [hbl]; exact hk5) hbd hy hO (B := true) ⟨fun _ => hst, fun _ => rfl⟩
 have pO0 : ¬ stP (blL L k) O → _ := fun hst => rStl_pure (by rw [hbl]; exact hk5) hbd hy hO (B := false) ⟨fun z => (nomatch z), fun z => absurd z hst⟩
 have pF1 : O = R → _ := fun e => sameE_x hy (by omega) R (c := true) ⟨fun _ => e, fun _ => rfl⟩
 have c0 : decide ((L.length : Int) > 10) = false := decide_eq_false (by omega)
 have c1 : decide ((O.length : Int) > 10) = false := decide_eq_false (by omega)
 have c2 : decide (Int.ofNat p < 0) = false := decide_eq_false (by show ¬ (p : Int) < 0; omega)
 have c3 : decide (Int.ofNat p > (L.length : Int)) = false := decide_eq_false (by show ¬ (p : Int) > _; omega)
 have k0 : (!true) = false := rfl
 have cR : decide ((R.length : Int) > 10) = false := decide_eq_false (by omega)
 have lRR := lks_no R
 have eR : enV R = .nils := if_pos hR0
 rw [eR] at pS pE pSt pF1
 have pTS : ∀ tv, LL tv (trn L p) → Pure prog 15 [nv k, tv] (.tup [.nils, iv 0]) := fun tv hT => by
  have := settle_run hT hbT hbt.symm hs0 hbd hR
  rwa [eR] at this
 have pTB : ∀ tv, LL tv (trn L p) → Pure prog 14 [nv k, tv] (.tup [nl (blL L k), iv 0]) := fun tv hT => by
  have := sBalances_yes hT hbT
  rwa [show (Int.ofNat k).toNat = k from rfl, hbt] at this
 generalize blL L k = b at *
 have cbl : ((b.length : Int) != Int.ofNat k) = false := by rw [hbl]; exact bne_self_eq_false _
 obtain rfl : k = b.length := hbl.symm
 have tf := tak_from L p
 have tt := takN_lks L p hp
 have tD : takeN ((L.length - p) * 3) (lks (L.drop p)) = some (lks (L.drop p)) := by
  rw [show L.length - p = (L.drop p).length by rw [List.length_drop]]; exact takeN_lks _
 have tT : takeN (p * 3) (lks (L.take p)) = some (lks (L.take p)) := by
  have := takeN_lks (L.take p)
  rwa [List.length_take, Nat.min_eq_left hp] at this
 refine pure_symX hE rfl (by repeat' (first | exact trivial | assumption | exact flat_no _ | exact (fun _ h => nomatch h) | apply And.intro)) (by repeat' (first | exact trivial | assumption | exact flat_no _ | exact (fun _ h => nomatch h) | apply And.intro)) fun S q pc hS hq hC hE => ?_
 conv => whnf
 refine sym_seq (E := E q pc) hS (sym_code (E := E q pc) hE hS ?_)
 conv => whnf
 refine sym_seq (E := E q pc) hS (sym_code (E := E q pc) hE hS ?_)
 conv => whnf
 repeat ((first
  |refine ko_sT c0 ?_
  |refine ko_rF c0 ?_
  |refine plan_as (pick_f c0) ?_
  |refine bool_false c0 ?_
  |refine ko_rT (gff c0) ?_
  |refine ko_sF (gff c0) ?_
  |refine plan_as (pick_t (gff c0)) ?_
  |refine bool_true (gff c0) ?_
  |refine ko_sT c1 ?_
  |refine ko_rF c1 ?_
  |refine plan_as (pick_f c1) ?_
  |refine bool_false c1 ?_
  |refine ko_rT (gff c1) ?_
  |refine ko_sF (gff c1) ?_
  |refine plan_as (pick_t (gff c1)) ?_
  |refine bool_true (gff c1) ?_
  |refine ko_sT k0 ?_
  |refine ko_rF k0 ?_
  |refine plan_as (pick_f k0) ?_
  |refine bool_false k0 ?_
  |refine ko_rT (gff k0) ?_
  |refine ko_sF (gff k0) ?_
  |refine plan_as (pick_t (gff k0)) ?_
  |refine bool_true (gff k0) ?_
  |refine ko_sT c2 ?_
  |refine ko_rF c2 ?_
  |refine plan_as (pick_f c2) ?_
  |refine bool_false c2 ?_
  |refine ko_rT (gff c2) ?_
  |refine ko_sF (gff c2) ?_
  |refine plan_as (pick_t (gff c2)) ?_
  |refine bool_true (gff c2) ?_
  |refine ko_sT c3 ?_
  |refine ko_rF c3 ?_
  |refine plan_as (pick_f c3) ?_
  |refine bool_false c3 ?_
  |refine sym_pure hC (pK) ?_
  |refine sym_drawn hS (by kernel_rfl) ?_); conv => whnf)
 refine sym_seqG (E := E q pc) hS (A := AV) [0, 1, 2] (fun tv => [(9, tv)]) (fun _ => []) (fun _ => []) (fun tv => tv = .nils) (Nat.le_of_ble_eq_true rfl) (sym_code (E := E q pc) hE hS ?_) ?_
 ·with_unfolding_all (conv => whnf)
  refine sym_drawn hS (by kernel_rfl) ?_
  conv => whnf
  exact ⟨.nils, rfl, (by refine ⟨rfl, rfl, rfl, rfl, rfl, rfl, 0, rfl, ?_, ?_⟩ <;> repeat' (first | exact trivial | exact rfl | exact ⟨_, rfl, WkV.refl _⟩ | exact ⟨_, rfl, WkV.own _ _ _⟩ | exact Nat.zero_le _ | exact bdl_no lO | exact Nat.le_of_ble_eq_true rfl | exact bdl_no (by assumption) | exact bdl_no (flat_no _) | exact bdl_no (ivs_no _) | exact bdl_no (svs_no _) | exact Nat.max_le.2 ⟨Nat.le_of_ble_eq_true rfl, bdl_no (ivs_no _)⟩ | exact Nat.max_le.2 ⟨Nat.le_of_ble_eq_true rfl, bdl_no (svs_no _)⟩ | apply And.intro))⟩
 ·intro tv hT Q hQ
  obtain rfl : Q = 0 := hQ
  have pTB := pTB tv (.inl ⟨hT, e0⟩)
  have pTS := pTS tv (.inl ⟨hT, e0⟩)
  subst hT
  refine sym_code (E := E q pc) hE hS ?_
  conv => whnf
  repeat ((first
   |refine ko_sT cbl ?_
   |refine ko_rF cbl ?_
   |refine plan_as (pick_f cbl) ?_
   |refine bool_false cbl ?_
   |refine ko_sT cR ?_
   |refine ko_rF cR ?_
   |refine plan_as (pick_f cR) ?_
   |refine bool_false cR ?_
   |refine sym_pure hC (pB) ?_
   |refine sym_pure hC (pS) ?_
   |refine sym_pure hC (pTB) ?_
   |refine sym_pure hC (pTS) ?_
   |refine sym_pure hC (pQ) ?_
   |refine sym_pure hC (pE) ?_
   |refine sym_drawn hS (by kernel_rfl) ?_); conv => whnf)
  refine sym_loopG hE hS (A := Nat) [2, 10, 12] (fun i => [(18, iv (sumN i fun a => b.getD a 0)), (19, nv i)]) (fun _ => []) (fun _ => []) (fun i => i ≤ b.length) (fun i => b.length - i) 0 (Nat.le_of_ble_eq_true rfl) rfl (by refine ⟨rfl, rfl, rfl, rfl, rfl, rfl, 0, rfl, ?_, ?_⟩ <;> repeat' (first | exact trivial | exact rfl | exact ⟨_, rfl, WkV.refl _⟩ | exact ⟨_, rfl, WkV.own _ _ _⟩ | exact Nat.zero_le _ | exact bdl_no lb | exact bdl_no lO | exact bdl_no lRR | exact Nat.le_of_ble_eq_true rfl | exact bdl_no (by assumption) | exact bdl_no (flat_no _) | exact bdl_no (ivs_no _) | exact bdl_no (svs_no _) | exact Nat.max_le.2 ⟨Nat.le_of_ble_eq_true rfl, bdl_no (ivs_no _)⟩ | exact Nat.max_le.2 ⟨Nat.le_of_ble_eq_true rfl, bdl_no (svs_no _)⟩ | apply And.intro)) (Nat.zero_le _) ?_
  intro i hi Q hQ
  obtain rfl : Q = 0 := hQ
  conv => whnf
  by_cases hi2 : i < b.length
  ·have gi := nth_ivs1 (l := b) (i := i) hi2
   have hbi := hbd i hi2
   have e1 : decide (b.getD i 0 < -8000000) = false := decide_eq_false (by omega)
   have e2 : decide (b.getD i 0 > 8000000) = false := decide_eq_false (by omega)
   have hsm := sum_bd hbd (i := i) hi
   have hw : IntKind.i64.wrap ((sumN i fun a => b.getD a 0) + b.getD i 0) = sumN (i + 1) fun a => b.getD a 0 := wrapI (by omega) (by omega)
   repeat ((first
    |refine plan_as (nthP gi) ?_
    |refine ko_rT (ltN_t hi2) ?_
    |refine ko_sF (ltN_t hi2) ?_
    |refine plan_as (pick_t (ltN_t hi2)) ?_
    |refine bool_true (ltN_t hi2) ?_
    |refine ko_sT (ltN_t hi2) ?_
    |refine ko_rF (ltN_t hi2) ?_
    |refine plan_as (pick_f (ltN_t hi2)) ?_
    |refine bool_false (ltN_t hi2) ?_
    |refine ko_rT (inR_t hi2) ?_
    |refine ko_sF (inR_t hi2) ?_
    |refine plan_as (pick_t (inR_t hi2)) ?_
    |refine bool_true (inR_t hi2) ?_
    |refine ko_sT e1 ?_
    |refine ko_rF e1 ?_
    |refine plan_as (pick_f e1) ?_
    |refine bool_false e1 ?_
    |refine ko_rT (gff e1) ?_
    |refine ko_sF (gff e1) ?_
    |refine plan_as (pick_t (gff e1)) ?_
    |refine bool_true (gff e1) ?_
    |refine ko_sT e2 ?_
    |refine ko_rF e2 ?_
    |refine plan_as (pick_f e2) ?_
    |refine bool_false e2 ?_
    |refine sym_drawn hS (by kernel_rfl) ?_); conv => whnf)
   exact ⟨i + 1, hi2, by omega, Nat.le_refl _, (by refine ⟨rfl, rfl, rfl, rfl, rfl, rfl, 0, rfl, ?_, ?_⟩ <;> repeat' (first | exact trivial | exact rfl | exact ⟨_, rfl, WkV.refl _⟩ | exact ⟨_, rfl, WkV.own _ _ _⟩ | exact Nat.zero_le _ | exact ⟨_, rfl, WkV.int hw⟩ | exact ⟨_, rfl, WkV.int (show IntKind.i64.wrap (Int.ofNat i + 1) = Int.ofNat (i + 1) from wrapN (m := i + 1) (by omega))⟩ | exact bdl_no lb | exact bdl_no lO | exact bdl_no lRR | exact Nat.le_of_ble_eq_true rfl | exact bdl_no (by assumption) | exact bdl_no (flat_no _) | exact bdl_no (ivs_no _) | exact bdl_no (svs_no _) | exact Nat.max_le.2 ⟨Nat.le_of_ble_eq_true rfl, bdl_no (ivs_no _)⟩ | exact Nat.max_le.2 ⟨Nat.le_of_ble_eq_true rfl, bdl_no (svs_no _)⟩ | apply And.intro))⟩
  ·refine bool_false (ltN_f hi2) ?_
   conv => whnf
   refine .inl ?_
   conv => whnf
   have ei : i = b.length := by omega
   have e3 : ((sumN i fun a => b.getD a 0) != 0) = false := by rw [ei, hs0]; rfl
   repeat ((first
    |refine ko_sT e3 ?_
    |refine ko_rF e3 ?_
    |refine plan_as (pick_f e3) ?_
    |refine bool_false e3 ?_
    |refine ko_rT (gff e3) ?_
    |refine ko_sF (gff e3) ?_
    |refine plan_as (pick_t (gff e3)) ?_
    |refine bool_true (gff e3) ?_
    |refine ko_sT k0 ?_
    |refine ko_rF k0 ?_
    |refine plan_as (pick_f k0) ?_
    |refine bool_false k0 ?_
    |refine ko_rT (gff k0) ?_
    |refine ko_sF (gff k0) ?_
    |refine plan_as (pick_t (gff k0)) ?_
    |refine bool_true (gff k0) ?_
    |refine sym_pure hC (pSt) ?_
    |refine sym_drawn hS (by kernel_rfl) ?_); conv => whnf)
   by_cases hst : stP b O
   ·have pO := pO1 hst
    have hlen := prop_len hk5.2 hR hst
    by_cases hgt : O.length > 0
    ·have e4 : decide ((O.length : Int) > 0) = true := decide_eq_true (by omega)
     repeat ((first
      |refine ko_sT k0 ?_
      |refine ko_rF k0 ?_
      |refine plan_as (pick_f k0) ?_
      |refine bool_false k0 ?_
      |refine ko_rT (gff k0) ?_
      |refine ko_sF (gff k0) ?_
      |refine plan_as (pick_t (gff k0)) ?_
      |refine bool_true (gff k0) ?_
      |refine ko_rT e4 ?_
      |refine ko_sF e4 ?_
      |refine plan_as (pick_t e4) ?_
      |refine bool_true e4 ?_
      |refine sym_pure hC (pO) ?_
      |refine sym_pure hC (known) ?_
      |refine sym_drawn hS (by kernel_rfl) ?_); conv => whnf)
     exact ⟨_, rfl, Wk.refl _⟩
    ·have e4 : decide ((O.length : Int) > 0) = false := decide_eq_false (by omega)
     have e5 : decide ((O.length : Int) < 0) = false := decide_eq_false (by omega)
     have hOR : O.length = 0 := by omega
     repeat ((first
      |refine ko_sT k0 ?_
      |refine ko_rF k0 ?_
      |refine plan_as (pick_f k0) ?_
      |refine bool_false k0 ?_
      |refine ko_rT (gff k0) ?_
      |refine ko_sF (gff k0) ?_
      |refine plan_as (pick_t (gff k0)) ?_
      |refine bool_true (gff k0) ?_
      |refine ko_sT e4 ?_
      |refine ko_rF e4 ?_
      |refine plan_as (pick_f e4) ?_
      |refine bool_false e4 ?_
      |refine ko_sT e5 ?_
      |refine ko_rF e5 ?_
      |refine plan_as (pick_f e5) ?_
      |refine bool_false e5 ?_
      |refine sym_pure hC (pO) ?_
      |refine sym_drawn hS (by kernel_rfl) ?_); conv => whnf)
     refine sym_unroll hE hS ?_
     conv => whnf
     have pF := pF1 ((List.length_eq_zero_iff.1 hOR).trans hR0.symm)
     repeat ((first
      |refine ko_sT k0 ?_
      |refine ko_rF k0 ?_
      |refine plan_as (pick_f k0) ?_
      |refine bool_false k0 ?_
      |refine sym_pure hC (pF) ?_
      |refine sym_pure hC (known) ?_
      |refine sym_drawn hS (by kernel_rfl) ?_); conv => whnf)
     exact ⟨_, rfl, Wk.refl _⟩
   ·have pO := pO0 hst
    have k1 : (!false) = true := rfl
    repeat ((first
     |refine ko_rT k1 ?_
     |refine ko_sF k1 ?_
     |refine plan_as (pick_t k1) ?_
     |refine bool_true k1 ?_
     |refine ko_sT (gft k1) ?_
     |refine ko_rF (gft k1) ?_
     |refine plan_as (pick_f (gft k1)) ?_
     |refine bool_false (gft k1) ?_
     |refine sym_pure hC (pO) ?_
     |refine sym_pure hC (known) ?_
     |refine sym_drawn hS (by kernel_rfl) ?_); conv => whnf)
    exact ⟨_, rfl, Wk.refl _⟩
theorem zero_NN (known : Pure prog 13 [] (.bool true)) {k : Nat} (h : bkOk (Int.ofNat k) []) (hRz : BkS (blL [] k) []) : Pure prog 4 [nv k, .nils, .nils, nv 0] (.bool true) := by
 obtain ⟨O, hO0⟩ : ∃ O : List LkI, O = [] := ⟨_, rfl⟩
 have hO : O.length ≤ 10 := by rw [hO0]; exact Nat.zero_le _
 obtain ⟨R, hR0⟩ : ∃ R : List LkI, R = [] := ⟨_, rfl⟩
 have hR10 : R.length ≤ 10 := by rw [hR0]; exact Nat.zero_le _
 have hR : BkS (blL [] k) R := by rw [hR0]; exact hRz
 obtain ⟨L, hL0⟩ : ∃ L : List LkI, L = [] := ⟨_, rfl⟩
 obtain ⟨p, hp0⟩ : ∃ p : Nat, p = 0 := ⟨_, rfl⟩
 have hL : L.length ≤ 10 := by rw [hL0]; exact Nat.zero_le _
 have hp : p ≤ L.length := by rw [hp0]; exact Nat.zero_le _
 have e0 : trn L p = [] := List.length_eq_zero_iff.1 (by rw [trn_len, hL0]; rfl)
 rw [← hL0] at h hR
 clear hRz
 have hx : LL .nils L := .inl ⟨rfl, hL0⟩
 have hy : LL .nils O := .inl ⟨rfl, hO0⟩
 have lL := lks_no L
 have lO := lks_no O
 have hk5 : 2 ≤ k ∧ k ≤ 5 := ⟨Int.ofNat_le.1 h.1.1, Int.ofNat_le.1 h.1.2⟩
 have pK := rBook_pure hx (Int.ofNat k) hL
 rw [decide_eq_true h] at pK
 have hs0 := bk_sum h
 have hbd := bk_bd h
 have pB := sBalances_yes hx h
 rw [show (Int.ofNat k).toNat = k from rfl] at pB
 have pS := settle_run hx h rfl hs0 hbd hR
 have hbT := trn_bk h p
 have hbt := trn_bal L p k
 have lb := ivs_no (blL L k)
 have hbl := blL_len L k
 have pQ := same_pure (blL L k) (blL L k) (by rw [hbl]; omega) (b := true) ⟨fun _ => rfl, fun _ => rfl⟩
 have pE := sameE_self R (by omega)
 have pSt := rStl_pure (by rw [hbl]; exact hk5) hbd (x := enV R) (L := R) (enV_LL R) hR10 (B := true) ⟨fun _ => st_stP (by rw [hbl]; exact hk5.2) hbd hR.st, fun _ => rfl⟩
 have pO1 : stP (blL L k) O → _ := fun hst => rStl_pure (by rw [hbl]; exact hk5) hbd hy hO (B := true) ⟨fun _ => hst, fun _ => rfl⟩
 have pO0 : ¬ stP (blL L k) O → _ := fun hst => rStl_pure (by rw [hbl]; exact hk5) hbd hy hO (B := false) ⟨fun z => (nomatch z), fun z => absurd z hst⟩
 have pF1 : O = R → _ := fun e => sameE_x hy (by omega) R (c := true) ⟨fun _ => e, fun _ => rfl⟩
 have c0 : decide ((L.length : Int) > 10) = false := decide_eq_false (by omega)
 have c1 : decide ((O.length : Int) > 10) = false := decide_eq_false (by omega)
 have c2 : decide (Int.ofNat p < 0) = false := decide_eq_false (by show ¬ (p : Int) < 0; omega)
 have c3 : decide (Int.ofNat p > (L.length : Int)) = false := decide_eq_false (by show ¬ (p : Int) > _; omega)
 have k0 : (!true) = false := rfl
 have cR : decide ((R.length : Int) > 10) = false := decide_eq_false (by omega)
 have lRR := lks_no R
 have eR : enV R = .nils := if_pos hR0
 rw [eR] at pS pE pSt pF1
 have pTS : ∀ tv, LL tv (trn L p) → Pure prog 15 [nv k, tv] (.tup [.nils, iv 0]) := fun tv hT => by
  have := settle_run hT hbT hbt.symm hs0 hbd hR
  rwa [eR] at this
 have pTB : ∀ tv, LL tv (trn L p) → Pure prog 14 [nv k, tv] (.tup [nl (blL L k), iv 0]) := fun tv hT => by
  have := sBalances_yes hT hbT
  rwa [show (Int.ofNat k).toNat = k from rfl, hbt] at this
 generalize blL L k = b at *
 have cbl : ((b.length : Int) != Int.ofNat k) = false := by rw [hbl]; exact bne_self_eq_false _
 obtain rfl : k = b.length := hbl.symm
 have tf := tak_from L p
 have tt := takN_lks L p hp
 have tD : takeN ((L.length - p) * 3) (lks (L.drop p)) = some (lks (L.drop p)) := by
  rw [show L.length - p = (L.drop p).length by rw [List.length_drop]]; exact takeN_lks _
 have tT : takeN (p * 3) (lks (L.take p)) = some (lks (L.take p)) := by
  have := takeN_lks (L.take p)
  rwa [List.length_take, Nat.min_eq_left hp] at this
 refine pure_symX hE rfl (by repeat' (first | exact trivial | assumption | exact flat_no _ | exact (fun _ h => nomatch h) | apply And.intro)) (by repeat' (first | exact trivial | assumption | exact flat_no _ | exact (fun _ h => nomatch h) | apply And.intro)) fun S q pc hS hq hC hE => ?_
 conv => whnf
 refine sym_seq (E := E q pc) hS (sym_code (E := E q pc) hE hS ?_)
 conv => whnf
 refine sym_seq (E := E q pc) hS (sym_code (E := E q pc) hE hS ?_)
 conv => whnf
 repeat ((first
  |refine ko_sT c0 ?_
  |refine ko_rF c0 ?_
  |refine plan_as (pick_f c0) ?_
  |refine bool_false c0 ?_
  |refine ko_rT (gff c0) ?_
  |refine ko_sF (gff c0) ?_
  |refine plan_as (pick_t (gff c0)) ?_
  |refine bool_true (gff c0) ?_
  |refine ko_sT c1 ?_
  |refine ko_rF c1 ?_
  |refine plan_as (pick_f c1) ?_
  |refine bool_false c1 ?_
  |refine ko_rT (gff c1) ?_
  |refine ko_sF (gff c1) ?_
  |refine plan_as (pick_t (gff c1)) ?_
  |refine bool_true (gff c1) ?_
  |refine ko_sT k0 ?_
  |refine ko_rF k0 ?_
  |refine plan_as (pick_f k0) ?_
  |refine bool_false k0 ?_
  |refine ko_rT (gff k0) ?_
  |refine ko_sF (gff k0) ?_
  |refine plan_as (pick_t (gff k0)) ?_
  |refine bool_true (gff k0) ?_
  |refine ko_sT c2 ?_
  |refine ko_rF c2 ?_
  |refine plan_as (pick_f c2) ?_
  |refine bool_false c2 ?_
  |refine ko_rT (gff c2) ?_
  |refine ko_sF (gff c2) ?_
  |refine plan_as (pick_t (gff c2)) ?_
  |refine bool_true (gff c2) ?_
  |refine ko_sT c3 ?_
  |refine ko_rF c3 ?_
  |refine plan_as (pick_f c3) ?_
  |refine bool_false c3 ?_
  |refine sym_pure hC (pK) ?_
  |refine sym_drawn hS (by kernel_rfl) ?_); conv => whnf)
 refine sym_seqG (E := E q pc) hS (A := AV) [0, 1, 2] (fun tv => [(9, tv)]) (fun _ => []) (fun _ => []) (fun tv => tv = .nils) (Nat.le_of_ble_eq_true rfl) (sym_code (E := E q pc) hE hS ?_) ?_
 ·with_unfolding_all (conv => whnf)
  refine sym_drawn hS (by kernel_rfl) ?_
  conv => whnf
  exact ⟨.nils, rfl, (by refine ⟨rfl, rfl, rfl, rfl, rfl, rfl, 0, rfl, ?_, ?_⟩ <;> repeat' (first | exact trivial | exact rfl | exact ⟨_, rfl, WkV.refl _⟩ | exact ⟨_, rfl, WkV.own _ _ _⟩ | exact Nat.zero_le _ | exact bdl_no lO | exact Nat.le_of_ble_eq_true rfl | exact bdl_no (by assumption) | exact bdl_no (flat_no _) | exact bdl_no (ivs_no _) | exact bdl_no (svs_no _) | exact Nat.max_le.2 ⟨Nat.le_of_ble_eq_true rfl, bdl_no (ivs_no _)⟩ | exact Nat.max_le.2 ⟨Nat.le_of_ble_eq_true rfl, bdl_no (svs_no _)⟩ | apply And.intro))⟩
 ·intro tv hT Q hQ
  obtain rfl : Q = 0 := hQ
  have pTB := pTB tv (.inl ⟨hT, e0⟩)
  have pTS := pTS tv (.inl ⟨hT, e0⟩)
  subst hT
  refine sym_code (E := E q pc) hE hS ?_
  conv => whnf
  repeat ((first
   |refine ko_sT cbl ?_
   |refine ko_rF cbl ?_
   |refine plan_as (pick_f cbl) ?_
   |refine bool_false cbl ?_
   |refine ko_sT cR ?_
   |refine ko_rF cR ?_
   |refine plan_as (pick_f cR) ?_
   |refine bool_false cR ?_
   |refine sym_pure hC (pB) ?_
   |refine sym_pure hC (pS) ?_
   |refine sym_pure hC (pTB) ?_
   |refine sym_pure hC (pTS) ?_
   |refine sym_pure hC (pQ) ?_
   |refine sym_pure hC (pE) ?_
   |refine sym_drawn hS (by kernel_rfl) ?_); conv => whnf)
  refine sym_loopG hE hS (A := Nat) [2, 10, 12] (fun i => [(18, iv (sumN i fun a => b.getD a 0)), (19, nv i)]) (fun _ => []) (fun _ => []) (fun i => i ≤ b.length) (fun i => b.length - i) 0 (Nat.le_of_ble_eq_true rfl) rfl (by refine ⟨rfl, rfl, rfl, rfl, rfl, rfl, 0, rfl, ?_, ?_⟩ <;> repeat' (first | exact trivial | exact rfl | exact ⟨_, rfl, WkV.refl _⟩ | exact ⟨_, rfl, WkV.own _ _ _⟩ | exact Nat.zero_le _ | exact bdl_no lb | exact bdl_no lO | exact bdl_no lRR | exact Nat.le_of_ble_eq_true rfl | exact bdl_no (by assumption) | exact bdl_no (flat_no _) | exact bdl_no (ivs_no _) | exact bdl_no (svs_no _) | exact Nat.max_le.2 ⟨Nat.le_of_ble_eq_true rfl, bdl_no (ivs_no _)⟩ | exact Nat.max_le.2 ⟨Nat.le_of_ble_eq_true rfl, bdl_no (svs_no _)⟩ | apply And.intro)) (Nat.zero_le _) ?_
  intro i hi Q hQ
  obtain rfl : Q = 0 := hQ
  conv => whnf
  by_cases hi2 : i < b.length
  ·have gi := nth_ivs1 (l := b) (i := i) hi2
   have hbi := hbd i hi2
   have e1 : decide (b.getD i 0 < -8000000) = false := decide_eq_false (by omega)
   have e2 : decide (b.getD i 0 > 8000000) = false := decide_eq_false (by omega)
   have hsm := sum_bd hbd (i := i) hi
   have hw : IntKind.i64.wrap ((sumN i fun a => b.getD a 0) + b.getD i 0) = sumN (i + 1) fun a => b.getD a 0 := wrapI (by omega) (by omega)
   repeat ((first
    |refine plan_as (nthP gi) ?_
    |refine ko_rT (ltN_t hi2) ?_
    |refine ko_sF (ltN_t hi2) ?_
    |refine plan_as (pick_t (ltN_t hi2)) ?_
    |refine bool_true (ltN_t hi2) ?_
    |refine ko_sT (ltN_t hi2) ?_
    |refine ko_rF (ltN_t hi2) ?_
    |refine plan_as (pick_f (ltN_t hi2)) ?_
    |refine bool_false (ltN_t hi2) ?_
    |refine ko_rT (inR_t hi2) ?_
    |refine ko_sF (inR_t hi2) ?_
    |refine plan_as (pick_t (inR_t hi2)) ?_
    |refine bool_true (inR_t hi2) ?_
    |refine ko_sT e1 ?_
    |refine ko_rF e1 ?_
    |refine plan_as (pick_f e1) ?_
    |refine bool_false e1 ?_
    |refine ko_rT (gff e1) ?_
    |refine ko_sF (gff e1) ?_
    |refine plan_as (pick_t (gff e1)) ?_
    |refine bool_true (gff e1) ?_
    |refine ko_sT e2 ?_
    |refine ko_rF e2 ?_
    |refine plan_as (pick_f e2) ?_
    |refine bool_false e2 ?_
    |refine sym_drawn hS (by kernel_rfl) ?_); conv => whnf)
   exact ⟨i + 1, hi2, by omega, Nat.le_refl _, (by refine ⟨rfl, rfl, rfl, rfl, rfl, rfl, 0, rfl, ?_, ?_⟩ <;> repeat' (first | exact trivial | exact rfl | exact ⟨_, rfl, WkV.refl _⟩ | exact ⟨_, rfl, WkV.own _ _ _⟩ | exact Nat.zero_le _ | exact ⟨_, rfl, WkV.int hw⟩ | exact ⟨_, rfl, WkV.int (show IntKind.i64.wrap (Int.ofNat i + 1) = Int.ofNat (i + 1) from wrapN (m := i + 1) (by omega))⟩ | exact bdl_no lb | exact bdl_no lO | exact bdl_no lRR | exact Nat.le_of_ble_eq_true rfl | exact bdl_no (by assumption) | exact bdl_no (flat_no _) | exact bdl_no (ivs_no _) | exact bdl_no (svs_no _) | exact Nat.max_le.2 ⟨Nat.le_of_ble_eq_true rfl, bdl_no (ivs_no _)⟩ | exact Nat.max_le.2 ⟨Nat.le_of_ble_eq_true rfl, bdl_no (svs_no _)⟩ | apply And.intro))⟩
  ·refine bool_false (ltN_f hi2) ?_
   conv => whnf
   refine .inl ?_
   conv => whnf
   have ei : i = b.length := by omega
   have e3 : ((sumN i fun a => b.getD a 0) != 0) = false := by rw [ei, hs0]; rfl
   repeat ((first
    |refine ko_sT e3 ?_
    |refine ko_rF e3 ?_
    |refine plan_as (pick_f e3) ?_
    |refine bool_false e3 ?_
    |refine ko_rT (gff e3) ?_
    |refine ko_sF (gff e3) ?_
    |refine plan_as (pick_t (gff e3)) ?_
    |refine bool_true (gff e3) ?_
    |refine ko_sT k0 ?_
    |refine ko_rF k0 ?_
    |refine plan_as (pick_f k0) ?_
    |refine bool_false k0 ?_
    |refine ko_rT (gff k0) ?_
    |refine ko_sF (gff k0) ?_
    |refine plan_as (pick_t (gff k0)) ?_
    |refine bool_true (gff k0) ?_
    |refine sym_pure hC (pSt) ?_
    |refine sym_drawn hS (by kernel_rfl) ?_); conv => whnf)
   have pF := pF1 (hO0.trans hR0.symm)
   refine sym_unroll hE hS ?_
   conv => whnf
   repeat ((first
    |refine ko_sT k0 ?_
    |refine ko_rF k0 ?_
    |refine plan_as (pick_f k0) ?_
    |refine bool_false k0 ?_
    |refine sym_pure hC (pF) ?_
    |refine sym_pure hC (known) ?_
    |refine sym_drawn hS (by kernel_rfl) ?_); conv => whnf)
   exact ⟨_, rfl, Wk.refl _⟩
theorem bst_10 {b : List Int} (hb : b.length ≤ 5) {R : List LkI} (hR : BkS b R) : R.length ≤ 10 := by
 obtain ⟨E, e1, e2, _⟩ := hR
 have h1 := (slv_sol e2).2.1.1
 have h2 := e1.length_le
 have h3 := cnL_6 hb
 omega
theorem bad_big {x y : AV} {L O : List LkI} (hx : LL x L) (hy : LL y O) (known : Pure prog 13 [] (.bool true)) (a z : Int) (h : ¬ (L.length ≤ 10 ∧ O.length ≤ 10)) : Pure prog 4 [iv a, x, y, iv z] (.bool true) := by
 have lx := hx.no
 have ly := hy.no
 by_cases hL : L.length ≤ 10
 ·have hO : ¬ O.length ≤ 10 := fun k => h ⟨hL, k⟩
  have c0 : decide ((L.length : Int) > 10) = false := decide_eq_false (by omega)
  have c1 : decide ((O.length : Int) > 10) = true := decide_eq_true (by omega)
  rcases hy with ⟨_, rfl⟩ | rfl
  ·exact absurd (Nat.zero_le 10) hO
  rcases hx with ⟨rfl, rfl⟩ | rfl
  all_goals
   refine pure_sym hE rfl (by repeat' (first | exact trivial | assumption | exact flat_no _ | exact (fun _ h => nomatch h) | apply And.intro)) (by repeat' (first | exact trivial | assumption | exact flat_no _ | exact (fun _ h => nomatch h) | apply And.intro)) fun S q pc hS hq hC hE => ?_
   conv => whnf
   repeat ((first
    |refine ko_sT c0 ?_
    |refine ko_rF c0 ?_
    |refine plan_as (pick_f c0) ?_
    |refine bool_false c0 ?_
    |refine ko_rT (gff c0) ?_
    |refine ko_sF (gff c0) ?_
    |refine plan_as (pick_t (gff c0)) ?_
    |refine bool_true (gff c0) ?_
    |refine ko_rT c1 ?_
    |refine ko_sF c1 ?_
    |refine plan_as (pick_t c1) ?_
    |refine bool_true c1 ?_
    |refine ko_sT (gft c1) ?_
    |refine ko_rF (gft c1) ?_
    |refine plan_as (pick_f (gft c1)) ?_
    |refine bool_false (gft c1) ?_
    |refine sym_pure hC (known) ?_
    |refine sym_drawn hS (by kernel_rfl) ?_); conv => whnf)
   exact ⟨_, rfl, Wk.refl _⟩
 ·have c0 : decide ((L.length : Int) > 10) = true := decide_eq_true (by omega)
  rcases hx with ⟨_, rfl⟩ | rfl
  ·exact absurd (Nat.zero_le 10) hL
  rcases hy with ⟨rfl, rfl⟩ | rfl
  all_goals
   refine pure_sym hE rfl (by repeat' (first | exact trivial | assumption | exact flat_no _ | exact (fun _ h => nomatch h) | apply And.intro)) (by repeat' (first | exact trivial | assumption | exact flat_no _ | exact (fun _ h => nomatch h) | apply And.intro)) fun S q pc hS hq hC hE => ?_
   conv => whnf
   repeat ((first
    |refine ko_rT c0 ?_
    |refine ko_sF c0 ?_
    |refine plan_as (pick_t c0) ?_
    |refine bool_true c0 ?_
    |refine ko_sT (gft c0) ?_
    |refine ko_rF (gft c0) ?_
    |refine plan_as (pick_f (gft c0)) ?_
    |refine bool_false (gft c0) ?_
    |refine sym_pure hC (known) ?_
    |refine sym_drawn hS (by kernel_rfl) ?_); conv => whnf)
   exact ⟨_, rfl, Wk.refl _⟩
theorem bad_rest {x y : AV} {L O : List LkI} (hx : LL x L) (hy : LL y O) (hL : L.length ≤ 10) (hO : O.length ≤ 10) (known : Pure prog 13 [] (.bool true)) (a z : Int) (h : ¬ (bkOk a L ∧ 0 ≤ z ∧ z ≤ (L.length : Int))) : Pure prog 4 [iv a, x, y, iv z] (.bool true) := by
 have lx := hx.no
 have ly := hy.no
 have c0 : decide ((L.length : Int) > 10) = false := decide_eq_false (by omega)
 have c1 : decide ((O.length : Int) > 10) = false := decide_eq_false (by omega)
 have pK := rBook_pure hx a hL
 by_cases hb : bkOk a L
 ·rw [decide_eq_true hb] at pK
  have k0 : (!true) = false := rfl
  by_cases h0 : z < 0
  ·have c2 : decide (z < 0) = true := decide_eq_true h0
   clear hb h
   rcases hx with ⟨rfl, rfl⟩ | rfl <;> rcases hy with ⟨rfl, rfl⟩ | rfl
   all_goals
    refine pure_sym hE rfl (by repeat' (first | exact trivial | assumption | exact flat_no _ | exact (fun _ h => nomatch h) | apply And.intro)) (by repeat' (first | exact trivial | assumption | exact flat_no _ | exact (fun _ h => nomatch h) | apply And.intro)) fun S q pc hS hq hC hE => ?_
    conv => whnf
    repeat ((first
     |refine ko_sT c0 ?_
     |refine ko_rF c0 ?_
     |refine plan_as (pick_f c0) ?_
     |refine bool_false c0 ?_
     |refine ko_rT (gff c0) ?_
     |refine ko_sF (gff c0) ?_
     |refine plan_as (pick_t (gff c0)) ?_
     |refine bool_true (gff c0) ?_
     |refine ko_sT c1 ?_
     |refine ko_rF c1 ?_
     |refine plan_as (pick_f c1) ?_
     |refine bool_false c1 ?_
     |refine ko_rT (gff c1) ?_
     |refine ko_sF (gff c1) ?_
     |refine plan_as (pick_t (gff c1)) ?_
     |refine bool_true (gff c1) ?_
     |refine ko_sT k0 ?_
     |refine ko_rF k0 ?_
     |refine plan_as (pick_f k0) ?_
     |refine bool_false k0 ?_
     |refine ko_rT (gff k0) ?_
     |refine ko_sF (gff k0) ?_
     |refine plan_as (pick_t (gff k0)) ?_
     |refine bool_true (gff k0) ?_
     |refine ko_rT c2 ?_
     |refine ko_sF c2 ?_
     |refine plan_as (pick_t c2) ?_
     |refine bool_true c2 ?_
     |refine ko_sT (gft c2) ?_
     |refine ko_rF (gft c2) ?_
     |refine plan_as (pick_f (gft c2)) ?_
     |refine bool_false (gft c2) ?_
     |refine sym_pure hC (pK) ?_
     |refine sym_pure hC (known) ?_
     |refine sym_drawn hS (by kernel_rfl) ?_); conv => whnf)
    exact ⟨_, rfl, Wk.refl _⟩
  ·have c2 : decide (z < 0) = false := decide_eq_false h0
   have z3 : ¬ z ≤ (L.length : Int) := fun k => h ⟨hb, by omega, k⟩
   have c3 : decide (z > (L.length : Int)) = true := decide_eq_true (by omega)
   clear hb h
   rcases hx with ⟨rfl, rfl⟩ | rfl <;> rcases hy with ⟨rfl, rfl⟩ | rfl
   all_goals
    refine pure_sym hE rfl (by repeat' (first | exact trivial | assumption | exact flat_no _ | exact (fun _ h => nomatch h) | apply And.intro)) (by repeat' (first | exact trivial | assumption | exact flat_no _ | exact (fun _ h => nomatch h) | apply And.intro)) fun S q pc hS hq hC hE => ?_
    conv => whnf
    repeat ((first
     |refine ko_sT c0 ?_
     |refine ko_rF c0 ?_
     |refine plan_as (pick_f c0) ?_
     |refine bool_false c0 ?_
     |refine ko_rT (gff c0) ?_
     |refine ko_sF (gff c0) ?_
     |refine plan_as (pick_t (gff c0)) ?_
     |refine bool_true (gff c0) ?_
     |refine ko_sT c1 ?_
     |refine ko_rF c1 ?_
     |refine plan_as (pick_f c1) ?_
     |refine bool_false c1 ?_
     |refine ko_rT (gff c1) ?_
     |refine ko_sF (gff c1) ?_
     |refine plan_as (pick_t (gff c1)) ?_
     |refine bool_true (gff c1) ?_
     |refine ko_sT k0 ?_
     |refine ko_rF k0 ?_
     |refine plan_as (pick_f k0) ?_
     |refine bool_false k0 ?_
     |refine ko_rT (gff k0) ?_
     |refine ko_sF (gff k0) ?_
     |refine plan_as (pick_t (gff k0)) ?_
     |refine bool_true (gff k0) ?_
     |refine ko_sT c2 ?_
     |refine ko_rF c2 ?_
     |refine plan_as (pick_f c2) ?_
     |refine bool_false c2 ?_
     |refine ko_rT (gff c2) ?_
     |refine ko_sF (gff c2) ?_
     |refine plan_as (pick_t (gff c2)) ?_
     |refine bool_true (gff c2) ?_
     |refine ko_rT c3 ?_
     |refine ko_sF c3 ?_
     |refine plan_as (pick_t c3) ?_
     |refine bool_true c3 ?_
     |refine sym_pure hC (pK) ?_
     |refine sym_pure hC (known) ?_
     |refine sym_drawn hS (by kernel_rfl) ?_); conv => whnf)
    exact ⟨_, rfl, Wk.refl _⟩
 ·rw [decide_eq_false hb] at pK
  have k1 : (!false) = true := rfl
  clear hb h
  rcases hx with ⟨rfl, rfl⟩ | rfl <;> rcases hy with ⟨rfl, rfl⟩ | rfl
  all_goals
   refine pure_sym hE rfl (by repeat' (first | exact trivial | assumption | exact flat_no _ | exact (fun _ h => nomatch h) | apply And.intro)) (by repeat' (first | exact trivial | assumption | exact flat_no _ | exact (fun _ h => nomatch h) | apply And.intro)) fun S q pc hS hq hC hE => ?_
   conv => whnf
   repeat ((first
    |refine ko_sT c0 ?_
    |refine ko_rF c0 ?_
    |refine plan_as (pick_f c0) ?_
    |refine bool_false c0 ?_
    |refine ko_rT (gff c0) ?_
    |refine ko_sF (gff c0) ?_
    |refine plan_as (pick_t (gff c0)) ?_
    |refine bool_true (gff c0) ?_
    |refine ko_sT c1 ?_
    |refine ko_rF c1 ?_
    |refine plan_as (pick_f c1) ?_
    |refine bool_false c1 ?_
    |refine ko_rT (gff c1) ?_
    |refine ko_sF (gff c1) ?_
    |refine plan_as (pick_t (gff c1)) ?_
    |refine bool_true (gff c1) ?_
    |refine ko_rT k1 ?_
    |refine ko_sF k1 ?_
    |refine plan_as (pick_t k1) ?_
    |refine bool_true k1 ?_
    |refine ko_sT (gft k1) ?_
    |refine ko_rF (gft k1) ?_
    |refine plan_as (pick_f (gft k1)) ?_
    |refine bool_false (gft k1) ?_
    |refine sym_pure hC (pK) ?_
    |refine sym_pure hC (known) ?_
    |refine sym_drawn hS (by kernel_rfl) ?_); conv => whnf)
   exact ⟨_, rfl, Wk.refl _⟩
theorem shopSettled (known : Pure prog 13 [] (.bool true)) (a : Int) {x : AV} {L : List LkI} (hx : LL x L) {y : AV} {O : List LkI} (hy : LL y O) (z : Int) : Pure prog 4 [iv a, x, y, iv z] (.bool true) := by
 by_cases hs : L.length ≤ 10 ∧ O.length ≤ 10
 ·by_cases h : bkOk a L ∧ 0 ≤ z ∧ z ≤ (L.length : Int)
  ·obtain ⟨h, z1, z2⟩ := h
   obtain ⟨k, rfl⟩ : ∃ k : Nat, a = Int.ofNat k := ⟨a.toNat, by have := h.1; exact (Int.toNat_of_nonneg (by omega)).symm⟩
   obtain ⟨p, rfl⟩ : ∃ p : Nat, z = Int.ofNat p := ⟨z.toNat, (Int.toNat_of_nonneg z1).symm⟩
   have hp : p ≤ L.length := Int.ofNat_le.1 z2
   obtain ⟨R, hR⟩ := bk_best h
   have hR10 := bst_10 (by rw [blL_len]; exact Int.ofNat_le.1 h.1.2) hR
   rcases hx with ⟨rfl, rfl⟩ | rfl
   ·have r0 := bk_nil hR
    subst r0
    have p0 : p = 0 := Nat.le_zero.1 hp
    subst p0
    rcases hy with ⟨rfl, _⟩ | rfl
    ·exact zero_NN known h hR
    ·exact zero_NL known hs.2 h hR
   ·by_cases hRn : R = []
    ·subst hRn
     rcases hy with ⟨rfl, _⟩ | rfl
     ·exact zero_LN known hs.1 h hp hR
     ·exact zero_LL known hs.1 hs.2 h hp hR
    ·have hLn : L ≠ [] := fun e => hRn (by subst e; exact bk_nil hR)
     rcases hy with ⟨rfl, _⟩ | rfl
     ·exact good_LN known hs.1 h hp hR hR10 hRn hLn
     ·exact good_LL known hs.1 hs.2 h hp hR hR10 hRn hLn
  ·exact bad_rest hx hy hs.1 hs.2 known a z h
 ·exact bad_big hx hy known a z hs
end
end Go.Abs.Seat
