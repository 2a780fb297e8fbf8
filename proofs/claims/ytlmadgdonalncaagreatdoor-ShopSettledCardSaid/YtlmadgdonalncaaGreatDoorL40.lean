/-
  The law ShopSettled.
-/
import Derived.Test.YtlmadgdonalncaaGreatDoorU15
import Derived.Test.YtlmadgdonalncaaGreatDoorU7
/-! The law ShopSettled. -/
namespace Go.Abs.Seat
noncomputable section
open Go Go.Abs Go.Proofs.Tryz
set_option maxRecDepth 100000
set_option maxHeartbeats 40000000
attribute [local irreducible] IntKind.wrap pEq pSlice

theorem sum_bd {b : List Int} (hbd : ∀ a, a < b.length → - 8000000 ≤ b.getD a 0 ∧ b.getD a 0 ≤ 8000000) : ∀ {i : Nat}, i ≤ b.length → -((i : Int) * 8000000) ≤ sumN i (fun a => b.getD a 0) ∧ sumN i (fun a => b.getD a 0) ≤ (i : Int) * 8000000
 | 0, _ => ⟨by simp [sumN], by simp [sumN]⟩
 |i + 1, h => by
  have ih := sum_bd hbd (i := i) (by omega)
  have := hbd i (by omega)
  rw [sumN]
  omega
theorem enV_LL (R : List LkI) : LL (enV R) R := by
 unfold enV
 split
 ·rename_i z
  exact .inl ⟨rfl, z⟩
 ·exact .inr rfl
theorem blL_nil {k a : Nat} (h : a < (blL [] k).length) : (blL [] k).getD a 0 = 0 := by
 rw [blL_len] at h
 rw [blL_get [] h]; rfl
theorem bk_nil {k : Nat} {R : List LkI} (hR : BkS (blL [] k) R) : R = [] := by
 obtain ⟨E, e1, e2, _⟩ := hR
 have hz : ∀ j, j < (blL [] k).length → (blL [] k).getD j 0 = 0 := fun j hj => blL_nil hj
 have he : cnL (blL [] k) = [] := Classical.byContradiction fun z => cn_ne z hz
 rw [he] at e1
 rw [List.sublist_nil.1 e1, slv_nil0 hz] at e2
 injection e2 with e2
 exact e2.symm
theorem good_LL (known : Pure prog 13 [] (.bool true)) {L O R : List LkI} (hL : L.length ≤ 10) (hO : O.length ≤ 10) {k p : Nat} (h : bkOk (Int.ofNat k) L) (hp : p ≤ L.length) (hR : BkS (blL L k) R) (hR10 : R.length ≤ 10) (hRn : R ≠ []) (hLn : L ≠ []) : Pure prog 4 [nv k, lkA L, lkA O, nv p] (.bool true) := by
 have hx : LL (lkA L) L := .inr rfl
 have hy : LL (lkA O) O := .inr rfl
 have lL := lks_no L
 have lO := lks_no O
 have hk5 : 2 ≤ k ∧ k ≤ 5 := ⟨Int.ofNat_le.1 h.1.1, Int.ofNat_le.1 h.1.2⟩
 have pK := rBook_pure hx (Int.ofNat k) hL
 rw [decide_eq_true h] at pK
 have hs0 := bk_sum h
 have hbd := bk_bd h
 have pB := sBalances_yes hx h
 rw [show (Int.ofNat k).toNat = k from rfl] at pB
 have pS := settle_run hx h rfl hs0 hbd hR
 have hbT := trn_bk h p
 have hbt := trn_bal L p k
 have lb := ivs_no (blL L k)
 have hbl := blL_len L k
 have pQ := same_pure (blL L k) (blL L k) (by rw [hbl]; omega) (b := true) ⟨fun _ => rfl, fun _ => rfl⟩
 have pE := sameE_self R (by omega)
 have pSt := rStl_pure (by rw [hbl]; exact hk5) hbd (x := enV R) (L := R) (enV_LL R) hR10 (B := true) ⟨fun _ => st_stP (by rw [hbl]; exact hk5.2) hbd hR.st, fun _ => rfl⟩
 have pO1 : stP (blL L k) O → _ := fun hst => rStl_pure (by rw [hbl]; exact hk5) hbd hy hO (B := true) ⟨fun _ => hst, fun _ => rfl⟩
 have pO0 : ¬ stP (blL L k) O → _ := fun hst => rStl_pure (by rw [hbl]; exact hk5) hbd hy hO (B := false) ⟨fun z => (nomatch z), fun z => absurd z hst⟩
 have pF1 : O = R → _ := fun e => sameE_x hy (by omega) R (c := true) ⟨fun _ => e, fun _ => rfl⟩
 have c0 : decide ((L.length : Int) > 10) = false := decide_eq_false (by omega)
 have c1 : decide ((O.length : Int) > 10) = false := decide_eq_false (by omega)
 have c2 : decide (Int.ofNat p < 0) = false := decide_eq_false (by show ¬ (p : Int) < 0; omega)
 have c3 : decide (Int.ofNat p > (L.length : Int)) = false := decide_eq_false (by show ¬ (p : Int) > _; omega)
 have k0 : (!true) = false := rfl
 have cR : decide ((R.length : Int) > 10) = false := decide_eq_false (by omega)
 have lRR := lks_no R
 have eR : enV R = lkA R := if_neg hRn
 rw [eR] at pS pE pSt pF1
 have pTS : ∀ tv, LL tv (trn L p) → Pure prog 15 [nv k, tv] (.tup [lkA R, iv 0]) := fun tv hT => by
  have := settle_run hT hbT hbt.symm hs0 hbd hR
  rwa [eR] at this
 have pTB : ∀ tv, LL tv (trn L p) → Pure prog 14 [nv k, tv] (.tup [nl (blL L k), iv 0]) := fun tv hT => by
  have := sBalances_yes hT hbT
  rwa [show (Int.ofNat k).toNat = k from rfl, hbt] at this
 generalize blL L k = b at *
 have cbl : ((b.length : Int) != Int.ofNat k) = false := by rw [hbl]; exact bne_self_eq_false _
 obtain rfl : k = b.length := hbl.symm
 have tf := tak_from L p
 have tt := takN_lks L p hp
 have tD : takeN ((L.length - p) * 3) (lks (L.drop p)) = some (lks (L.drop p)) := by
  rw [show L.length - p = (L.drop p).length by rw [List.length_drop]]; exact takeN_lks _
 have tT : takeN (p * 3) (lks (L.take p)) = some (lks (L.take p)) := by
  have := takeN_lks (L.take p)
  rwa [List.length_take, Nat.min_eq_left hp] at this
 refine pure_symX hE rfl (by repeat' (first | exact trivial | assumption | exact flat_no _ | exact (fun _ h => nomatch h) | apply And.intro)) (by repeat' (first | exact trivial | assumption | exact flat_no _ | exact (fun _ h => nomatch h) | apply And.intro)) fun S q pc hS hq hC hE => ?_
 conv => whnf
 refine sym_seq (E := E q pc) hS (sym_code (E := E q pc) hE hS ?_)
 conv => whnf
 refine sym_seq (E := E q pc) hS (sym_code (E := E q pc) hE hS ?_)
 conv => whnf
 repeat ((first
  |refine ko_sT c0 ?_
  |refine ko_rF c0 ?_
  |refine plan_as (pick_f c0) ?_
  |refine bool_false c0 ?_
  |refine ko_rT (gff c0) ?_
  |refine ko_sF (gff c0) ?_
  |refine plan_as (pick_t (gff c0)) ?_
  |refine bool_true (gff c0) ?_
  |refine ko_sT c1 ?_
  |refine ko_rF c1 ?_
  |refine plan_as (pick_f c1) ?_
  |refine bool_false c1 ?_
  |refine ko_rT (gff c1) ?_
  |refine ko_sF (gff c1) ?_
  |refine plan_as (pick_t (gff c1)) ?_
  |refine bool_true (gff c1) ?_
  |refine ko_sT k0 ?_
  |refine ko_rF k0 ?_
  |refine plan_as (pick_f k0) ?_
  |refine bool_false k0 ?_
  |refine ko_rT (gff k0) ?_
  |refine ko_sF (gff k0) ?_
  |refine plan_as (pick_t (gff k0)) ?_
  |refine bool_true (gff k0) ?_
  |refine ko_sT c2 ?_
  |refine ko_rF c2 ?_
  |refine plan_as (pick_f c2) ?_
  |refine bool_false c2 ?_
  |refine ko_rT (gff c2) ?_
  |refine ko_sF (gff c2) ?_
  |refine plan_as (pick_t (gff c2)) ?_
  |refine bool_true (gff c2) ?_
  |refine ko_sT c3 ?_
  |refine ko_rF c3 ?_
  |refine plan_as (pick_f c3) ?_
  |refine bool_false c3 ?_
  |refine sym_pure hC (pK) ?_
  |refine sym_drawn hS (by kernel_rfl) ?_); conv => whnf)
 refine sym_seqG (E := E q pc) hS (A := AV) [0, 1, 2] (fun tv => [(9, tv)]) (fun _ => []) (fun _ => []) (fun tv => LL tv (trn L p)) (Nat.le_of_ble_eq_true rfl) (sym_code (E := E q pc) hE hS ?_) ?_
 ·conv => whnf
  by_cases hpl : p < L.length
  ·obtain ⟨d, hd⟩ : ∃ d, L.length - p = d + 1 := ⟨L.length - p - 1, by omega⟩
   refine plan_as (slFrom (e := 38) (by kernel_rfl) rfl rfl hp (by exact tf)) ?_
   conv => whnf
   refine bool_true (decide_eq_true (show p * 3 ≤ (lks L).length by rw [lks_len]; omega)) ?_
   conv => whnf
   refine plan_as (pSrc_eq (e := 38) (ys := lks (L.drop p)) (m := L.length - p) (own := .no) (l := lks (L.drop p)) (by kernel_rfl) rfl (by exact tD)) ?_
   rw [hd]
   conv => whnf
   refine bool_true (allCells_lks (L.drop p)) ?_
   conv => whnf
   refine bool_true (decide_eq_true (show (d + 1) * 24 ≤ 140737488355328 by omega)) ?_
   conv => whnf
   refine bool_true (decide_eq_true (show d + 1 ≤ 9223372036854775807 by omega)) ?_
   conv => whnf
   refine plan_as (slTo (e := 38) (by kernel_rfl) rfl rfl hp (by exact tt)) ?_
   conv => whnf
   refine plan_as (pSrc_eq (e := 38) (ys := lks (L.take p)) (m := p) (own := .no) (l := lks (L.take p)) (by kernel_rfl) rfl (by exact tT)) ?_
   by_cases hp0 : p = 0
   ·rw [hp0]
    conv => whnf
    refine sym_drawn hS (by kernel_rfl) ?_
    conv => whnf
    have eT : AV.lst (lks (L.drop 0)) (d + 1) .no = lkA (trn L 0) := by
     rw [hp0] at hd
     unfold trn lkA
     rw [List.drop_zero, List.take_zero, List.append_nil, ← hd, Nat.sub_zero]
    exact ⟨lkA (trn L 0), .inr rfl, (by refine ⟨rfl, rfl, rfl, rfl, rfl, rfl, 0, rfl, ?_, ?_⟩ <;> repeat' (first | exact trivial | exact rfl | exact ⟨_, rfl, WkV.refl _⟩ | exact ⟨_, rfl, WkV.own _ _ _⟩ | exact Nat.zero_le _ | exact ⟨_, rfl, WkV.trans (WkV.own _ _ _) (WkV.eq eT)⟩ | exact bz (lkA_no _) | exact bdl_no lL | exact bdl_no lO | exact Nat.le_of_ble_eq_true rfl | exact bdl_no (by assumption) | exact bdl_no (flat_no _) | exact bdl_no (ivs_no _) | exact bdl_no (svs_no _) | exact Nat.max_le.2 ⟨Nat.le_of_ble_eq_true rfl, bdl_no (ivs_no _)⟩ | exact Nat.max_le.2 ⟨Nat.le_of_ble_eq_true rfl, bdl_no (svs_no _)⟩ | apply And.intro))⟩
   ·obtain ⟨r, hpr⟩ : ∃ r, p = r + 1 := ⟨p - 1, by omega⟩
    rw [hpr]
    conv => whnf
    have lenT : lenIs (lks (L.drop p)) ((d + 1) * 3) = true := by
     have := lenIs_en (L.drop p)
     rwa [List.length_drop, hd] at this
    rw [hpr] at lenT
    refine bool_true (allCells_lks (L.take (r + 1))) ?_
    conv => whnf
    refine bool_true (decide_eq_true (show (d + 1 + (r + 1)) * 24 ≤ 140737488355328 by omega)) ?_
    conv => whnf
    refine bool_true (decide_eq_true (show d + 1 + (r + 1) ≤ 9223372036854775807 by omega)) ?_
    conv => whnf
    refine bool_true (lenT) ?_
    conv => whnf
    refine bool_true (decide_eq_true rfl) ?_
    conv => whnf
    refine sym_drawn hS (by kernel_rfl) ?_
    conv => whnf
    have eT : AV.lst (lks (L.drop (r + 1)) ++ lks (L.take (r + 1))) (d + 1 + (r + 1)) .no = lkA (trn L (r + 1)) := by
     rw [← lks_app, show d + 1 + (r + 1) = (trn L (r + 1)).length by rw [trn_len]; omega]; rfl
    exact ⟨lkA (trn L (r + 1)), .inr rfl, (by refine ⟨rfl, rfl, rfl, rfl, rfl, rfl, 0, rfl, ?_, ?_⟩ <;> repeat' (first | exact trivial | exact rfl | exact ⟨_, rfl, WkV.refl _⟩ | exact ⟨_, rfl, WkV.own _ _ _⟩ | exact Nat.zero_le _ | exact ⟨_, rfl, WkV.trans (WkV.own _ _ _) (WkV.eq eT)⟩ | exact bz (lkA_no _) | exact bdl_no lL | exact bdl_no lO | exact Nat.le_of_ble_eq_true rfl | exact bdl_no (by assumption) | exact bdl_no (flat_no _) | exact bdl_no (ivs_no _) | exact bdl_no (svs_no _) | exact Nat.max_le.2 ⟨Nat.le_of_ble_eq_true rfl, bdl_no (ivs_no _)⟩ | exact Nat.max_le.2 ⟨Nat.le_of_ble_eq_true rfl, bdl_no (svs_no _)⟩ | apply And.intro))⟩
  ·have hd : L.length - p = 0 := by omega
   refine plan_as (slFrom (e := 38) (by kernel_rfl) rfl rfl hp (by exact tf)) ?_
   conv => whnf
   refine bool_true (decide_eq_true (show p * 3 ≤ (lks L).length by rw [lks_len]; omega)) ?_
   conv => whnf
   refine plan_as (pSrc_eq (e := 38) (ys := lks (L.drop p)) (m := L.length - p) (own := .no) (l := lks (L.drop p)) (by kernel_rfl) rfl (by exact tD)) ?_
   rw [hd]
   conv => whnf
   refine bool_true (allCells_lks (L.drop p)) ?_
   conv => whnf
   refine plan_as (slTo (e := 38) (by kernel_rfl) rfl rfl hp (by exact tt)) ?_
   conv => whnf
   refine plan_as (pSrc_eq (e := 38) (ys := lks (L.take p)) (m := p) (own := .no) (l := lks (L.take p)) (by kernel_rfl) rfl (by exact tT)) ?_
   by_cases hp0 : p = 0
   ·rw [hp0]
    conv => whnf
    refine sym_drawn hS (by kernel_rfl) ?_
    conv => whnf
    have e0 : trn L 0 = [] := List.length_eq_zero_iff.1 (by rw [trn_len]; omega)
    exact ⟨.nils, .inl ⟨rfl, e0⟩, (by refine ⟨rfl, rfl, rfl, rfl, rfl, rfl, 0, rfl, ?_, ?_⟩ <;> repeat' (first | exact trivial | exact rfl | exact ⟨_, rfl, WkV.refl _⟩ | exact ⟨_, rfl, WkV.own _ _ _⟩ | exact Nat.zero_le _ | exact bdl_no lL | exact bdl_no lO | exact Nat.le_of_ble_eq_true rfl | exact bdl_no (by assumption) | exact bdl_no (flat_no _) | exact bdl_no (ivs_no _) | exact bdl_no (svs_no _) | exact Nat.max_le.2 ⟨Nat.le_of_ble_eq_true rfl, bdl_no (ivs_no _)⟩ | exact Nat.max_le.2 ⟨Nat.le_of_ble_eq_true rfl, bdl_no (svs_no _)⟩ | apply And.intro))⟩
   ·obtain ⟨r, hpr⟩ : ∃ r, p = r + 1 := ⟨p - 1, by omega⟩
    rw [hpr]
    conv => whnf
    refine bool_true (allCells_lks (L.take (r + 1))) ?_
    conv => whnf
    refine bool_true (decide_eq_true (show (r + 1) * 24 ≤ 140737488355328 by omega)) ?_
    conv => whnf
    refine bool_true (decide_eq_true (show r + 1 ≤ 9223372036854775807 by omega)) ?_
    conv => whnf
    refine sym_drawn hS (by kernel_rfl) ?_
    conv => whnf
    have eT : AV.lst (lks (L.take (r + 1))) (r + 1) .no = lkA (trn L (r + 1)) := by
     unfold trn lkA
     rw [List.drop_eq_nil_of_le (by omega), List.nil_append, List.length_take, Nat.min_eq_left (by omega)]
    exact ⟨lkA (trn L (r + 1)), .inr rfl, (by refine ⟨rfl, rfl, rfl, rfl, rfl, rfl, 0, rfl, ?_, ?_⟩ <;> repeat' (first | exact trivial | exact rfl | exact ⟨_, rfl, WkV.refl _⟩ | exact ⟨_, rfl, WkV.own _ _ _⟩ | exact Nat.zero_le _ | exact ⟨_, rfl, WkV.trans (WkV.own _ _ _) (WkV.eq eT)⟩ | exact bz (lkA_no _) | exact bdl_no lL | exact bdl_no lO | exact Nat.le_of_ble_eq_true rfl | exact bdl_no (by assumption) | exact bdl_no (flat_no _) | exact bdl_no (ivs_no _) | exact bdl_no (svs_no _) | exact Nat.max_le.2 ⟨Nat.le_of_ble_eq_true rfl, bdl_no (ivs_no _)⟩ | exact Nat.max_le.2 ⟨Nat.le_of_ble_eq_true rfl, bdl_no (svs_no _)⟩ | apply And.intro))⟩
 ·intro tv hT Q hQ
  obtain rfl : Q = 0 := hQ
  have pTB := pTB tv hT
  have pTS := pTS tv hT
  have hT : tv = lkA (trn L p) := hT.resolve_left fun z => hLn (List.length_eq_zero_iff.1 (by rw [← trn_len L p, z.2]; rfl))
  subst hT
  refine sym_code (E := E q pc) hE hS ?_
  conv => whnf
  repeat ((first
   |refine ko_sT cbl ?_
   |refine ko_rF cbl ?_
   |refine plan_as (pick_f cbl) ?_
   |refine bool_false cbl ?_
   |refine ko_sT cR ?_
   |refine ko_rF cR ?_
   |refine plan_as (pick_f cR) ?_
   |refine bool_false cR ?_
   |refine sym_pure hC (pB) ?_
   |refine sym_pure hC (pS) ?_
   |refine sym_pure hC (pTB) ?_
   |refine sym_pure hC (pTS) ?_
   |refine sym_pure hC (pQ) ?_
   |refine sym_pure hC (pE) ?_
   |refine sym_drawn hS (by kernel_rfl) ?_); conv => whnf)
  refine sym_loopG hE hS (A := Nat) [2, 10, 12] (fun i => [(18, iv (sumN i fun a => b.getD a 0)), (19, nv i)]) (fun _ => []) (fun _ => []) (fun i => i ≤ b.length) (fun i => b.length - i) 0 (Nat.le_of_ble_eq_true rfl) rfl (by refine ⟨rfl, rfl, rfl, rfl, rfl, rfl, 0, rfl, ?_, ?_⟩ <;> repeat' (first | exact trivial | exact rfl | exact ⟨_, rfl, WkV.refl _⟩ | exact ⟨_, rfl, WkV.own _ _ _⟩ | exact Nat.zero_le _ | exact bdl_no lb | exact bdl_no lO | exact bdl_no lRR | exact Nat.le_of_ble_eq_true rfl | exact bdl_no (by assumption) | exact bdl_no (flat_no _) | exact bdl_no (ivs_no _) | exact bdl_no (svs_no _) | exact Nat.max_le.2 ⟨Nat.le_of_ble_eq_true rfl, bdl_no (ivs_no _)⟩ | exact Nat.max_le.2 ⟨Nat.le_of_ble_eq_true rfl, bdl_no (svs_no _)⟩ | apply And.intro)) (Nat.zero_le _) ?_
  intro i hi Q hQ
  obtain rfl : Q = 0 := hQ
  conv => whnf
  by_cases hi2 : i < b.length
  ·have gi := nth_ivs1 (l := b) (i := i) hi2
   have hbi := hbd i hi2
   have e1 : decide (b.getD i 0 < -8000000) = false := decide_eq_false (by omega)
   have e2 : decide (b.getD i 0 > 8000000) = false := decide_eq_false (by omega)
   have hsm := sum_bd hbd (i := i) hi
   have hw : IntKind.i64.wrap ((sumN i fun a => b.getD a 0) + b.getD i 0) = sumN (i + 1) fun a => b.getD a 0 := wrapI (by omega) (by omega)
   repeat ((first
    |refine plan_as (nthP gi) ?_
    |refine ko_rT (ltN_t hi2) ?_
    |refine ko_sF (ltN_t hi2) ?_
    |refine plan_as (pick_t (ltN_t hi2)) ?_
    |refine bool_true (ltN_t hi2) ?_
    |refine ko_sT (ltN_t hi2) ?_
    |refine ko_rF (ltN_t hi2) ?_
    |refine plan_as (pick_f (ltN_t hi2)) ?_
    |refine bool_false (ltN_t hi2) ?_
    |refine ko_rT (inR_t hi2) ?_
    |refine ko_sF (inR_t hi2) ?_
    |refine plan_as (pick_t (inR_t hi2)) ?_
    |refine bool_true (inR_t hi2) ?_
    |refine ko_sT e1 ?_
    |refine ko_rF e1 ?_
    |refine plan_as (pick_f e1) ?_
    |refine bool_false e1 ?_
    |refine ko_rT (gff e1) ?_
    |refine ko_sF (gff e1) ?_
    |refine plan_as (pick_t (gff e1)) ?_
    |refine bool_true (gff e1) ?_
    |refine ko_sT e2 ?_
    |refine ko_rF e2 ?_
    |refine plan_as (pick_f e2) ?_
    |refine bool_false e2 ?_
    |refine sym_drawn hS (by kernel_rfl) ?_); conv => whnf)
   exact ⟨i + 1, hi2, by omega, Nat.le_refl _, (by refine ⟨rfl, rfl, rfl, rfl, rfl, rfl, 0, rfl, ?_, ?_⟩ <;> repeat' (first | exact trivial | exact rfl | exact ⟨_, rfl, WkV.refl _⟩ | exact ⟨_, rfl, WkV.own _ _ _⟩ | exact Nat.zero_le _ | exact ⟨_, rfl, WkV.int hw⟩ | exact ⟨_, rfl, WkV.int (show IntKind.i64.wrap (Int.ofNat i + 1) = Int.ofNat (i + 1) from wrapN (m := i + 1) (by omega))⟩ | exact bdl_no lb | exact bdl_no lO | exact bdl_no lRR | exact Nat.le_of_ble_eq_true rfl | exact bdl_no (by assumption) | exact bdl_no (flat_no _) | exact bdl_no (ivs_no _) | exact bdl_no (svs_no _) | exact Nat.max_le.2 ⟨Nat.le_of_ble_eq_true rfl, bdl_no (ivs_no _)⟩ | exact Nat.max_le.2 ⟨Nat.le_of_ble_eq_true rfl, bdl_no (svs_no _)⟩ | apply And.intro))⟩
  ·refine bool_false (ltN_f hi2) ?_
   conv => whnf
   refine .inl ?_
   conv => whnf
   have ei : i = b.length := by omega
   have e3 : ((sumN i fun a => b.getD a 0) != 0) = false := by rw [ei, hs0]; rfl
   repeat ((first
    |refine ko_sT e3 ?_
    |refine ko_rF e3 ?_
    |refine plan_as (pick_f e3) ?_
    |refine bool_false e3 ?_
    |refine ko_rT (gff e3) ?_
    |refine ko_sF (gff e3) ?_
    |refine plan_as (pick_t (gff e3)) ?_
    |refine bool_true (gff e3) ?_
    |refine ko_sT k0 ?_
    |refine ko_rF k0 ?_
    |refine plan_as (pick_f k0) ?_
    |refine bool_false k0 ?_
    |refine ko_rT (gff k0) ?_
    |refine ko_sF (gff k0) ?_
    |refine plan_as (pick_t (gff k0)) ?_
    |refine bool_true (gff k0) ?_
    |refine sym_pure hC (pSt) ?_
    |refine sym_drawn hS (by kernel_rfl) ?_); conv => whnf)
   by_cases hst : stP b O
   ·have pO := pO1 hst
    have hlen := prop_len hk5.2 hR hst
    by_cases hgt : O.length > R.length
    ·have e4 : decide ((O.length : Int) > (R.length : Int)) = true := decide_eq_true (by omega)
     repeat ((first
      |refine ko_sT k0 ?_
      |refine ko_rF k0 ?_
      |refine plan_as (pick_f k0) ?_
      |refine bool_false k0 ?_
      |refine ko_rT (gff k0) ?_
      |refine ko_sF (gff k0) ?_
      |refine plan_as (pick_t (gff k0)) ?_
      |refine bool_true (gff k0) ?_
      |refine ko_rT e4 ?_
      |refine ko_sF e4 ?_
      |refine plan_as (pick_t e4) ?_
      |refine bool_true e4 ?_
      |refine sym_pure hC (pO) ?_
      |refine sym_pure hC (known) ?_
      |refine sym_drawn hS (by kernel_rfl) ?_); conv => whnf)
     exact ⟨_, rfl, Wk.refl _⟩
    ·have e4 : decide ((O.length : Int) > (R.length : Int)) = false := decide_eq_false (by omega)
     have e5 : decide ((O.length : Int) < (R.length : Int)) = false := decide_eq_false (by omega)
     have hOR : O.length = R.length := by omega
     repeat ((first
      |refine ko_sT k0 ?_
      |refine ko_rF k0 ?_
      |refine plan_as (pick_f k0) ?_
      |refine bool_false k0 ?_
      |refine ko_rT (gff k0) ?_
      |refine ko_sF (gff k0) ?_
      |refine plan_as (pick_t (gff k0)) ?_
      |refine bool_true (gff k0) ?_
      |refine ko_sT e4 ?_
      |refine ko_rF e4 ?_
      |refine plan_as (pick_f e4) ?_
      |refine bool_false e4 ?_
      |refine ko_sT e5 ?_
      |refine ko_rF e5 ?_
      |refine plan_as (pick_f e5) ?_
      |refine bool_false e5 ?_
      |refine sym_pure hC (pO) ?_
      |refine sym_drawn hS (by kernel_rfl) ?_); conv => whnf)
     refine sym_loopG hE hS (A := Nat) [2, 12] (fun i => [(20, nv i)]) (fun _ => []) (fun _ => []) (fun i => i ≤ R.length ∧ ∀ j, j < i → (gL O j).1 = (gL R j).1 ∧ (gL O j).2.1 = (gL R j).2.1) (fun i => R.length - i) 0 (Nat.le_of_ble_eq_true rfl) rfl (by refine ⟨rfl, rfl, rfl, rfl, rfl, rfl, 0, rfl, ?_, ?_⟩ <;> repeat' (first | exact trivial | exact rfl | exact ⟨_, rfl, WkV.refl _⟩ | exact ⟨_, rfl, WkV.own _ _ _⟩ | exact Nat.zero_le _ | exact bdl_no lO | exact bdl_no lRR | exact Nat.le_of_ble_eq_true rfl | exact bdl_no (by assumption) | exact bdl_no (flat_no _) | exact bdl_no (ivs_no _) | exact bdl_no (svs_no _) | exact Nat.max_le.2 ⟨Nat.le_of_ble_eq_true rfl, bdl_no (ivs_no _)⟩ | exact Nat.max_le.2 ⟨Nat.le_of_ble_eq_true rfl, bdl_no (svs_no _)⟩ | apply And.intro)) ⟨Nat.zero_le _, fun _ h => absurd h (Nat.not_lt_zero _)⟩ ?_
     intro i ⟨hi, hj⟩ Q hQ
     obtain rfl : Q = 0 := hQ
     conv => whnf
     by_cases hi3 : i < R.length
     ·have hi4 : i < O.length := by omega
      have pe1 := rElt_pure (gL O i) (gL R i)
      have pe2 := rElt_pure (gL R i) (gL O i)
      have ne1 : ¬ elP (gL O i) (gL R i) := fun z => prop_lx hk5.2 hR hst hOR (lxP_at hi4 hi3 hj z)
      rw [decide_eq_false ne1] at pe1
      by_cases ne2 : elP (gL R i) (gL O i)
      ·rw [decide_eq_true ne2] at pe2
       repeat ((first
        |refine plan_as (takP (tak_lk O hi4)) ?_
        |refine plan_as (takP (tak_lk R hi3)) ?_
        |refine ko_rT (ltN_t hi3) ?_
        |refine ko_sF (ltN_t hi3) ?_
        |refine plan_as (pick_t (ltN_t hi3)) ?_
        |refine bool_true (ltN_t hi3) ?_
        |refine ko_sT (ltN_t hi3) ?_
        |refine ko_rF (ltN_t hi3) ?_
        |refine plan_as (pick_f (ltN_t hi3)) ?_
        |refine bool_false (ltN_t hi3) ?_
        |refine ko_rT (inR_t hi3) ?_
        |refine ko_sF (inR_t hi3) ?_
        |refine plan_as (pick_t (inR_t hi3)) ?_
        |refine bool_true (inR_t hi3) ?_
        |refine ko_rT (inR_t hi4) ?_
        |refine ko_sF (inR_t hi4) ?_
        |refine plan_as (pick_t (inR_t hi4)) ?_
        |refine bool_true (inR_t hi4) ?_
        |refine sym_pure hC (pe1) ?_
        |refine sym_pure hC (pe2) ?_
        |refine sym_pure hC (known) ?_
        |refine sym_drawn hS (by kernel_rfl) ?_); conv => whnf)
       exact ⟨_, rfl, Wk.refl _⟩
      ·rw [decide_eq_false ne2] at pe2
       repeat ((first
        |refine plan_as (takP (tak_lk O hi4)) ?_
        |refine plan_as (takP (tak_lk R hi3)) ?_
        |refine ko_rT (ltN_t hi3) ?_
        |refine ko_sF (ltN_t hi3) ?_
        |refine plan_as (pick_t (ltN_t hi3)) ?_
        |refine bool_true (ltN_t hi3) ?_
        |refine ko_sT (ltN_t hi3) ?_
        |refine ko_rF (ltN_t hi3) ?_
        |refine plan_as (pick_f (ltN_t hi3)) ?_
        |refine bool_false (ltN_t hi3) ?_
        |refine ko_rT (inR_t hi3) ?_
        |refine ko_sF (inR_t hi3) ?_
        |refine plan_as (pick_t (inR_t hi3)) ?_
        |refine bool_true (inR_t hi3) ?_
        |refine ko_rT (inR_t hi4) ?_
        |refine ko_sF (inR_t hi4) ?_
        |refine plan_as (pick_t (inR_t hi4)) ?_
        |refine bool_true (inR_t hi4) ?_
        |refine sym_pure hC (pe1) ?_
        |refine sym_pure hC (pe2) ?_
        |refine sym_pure hC (known) ?_
        |refine sym_drawn hS (by kernel_rfl) ?_); conv => whnf)
       exact ⟨i + 1, ⟨hi3, fun j h => by
        by_cases e : j = i
        ·rw [e]; unfold elP at ne1 ne2; omega
        ·exact hj j (by omega)⟩, by omega, Nat.le_refl _, (by refine ⟨rfl, rfl, rfl, rfl, rfl, rfl, 0, rfl, ?_, ?_⟩ <;> repeat' (first | exact trivial | exact rfl | exact ⟨_, rfl, WkV.refl _⟩ | exact ⟨_, rfl, WkV.own _ _ _⟩ | exact Nat.zero_le _ | exact ⟨_, rfl, WkV.int (show IntKind.i64.wrap (Int.ofNat i + 1) = Int.ofNat (i + 1) from wrapN (m := i + 1) (by omega))⟩ | exact bdl_no lO | exact bdl_no lRR | exact Nat.le_of_ble_eq_true rfl | exact bdl_no (by assumption) | exact bdl_no (flat_no _) | exact bdl_no (ivs_no _) | exact bdl_no (svs_no _) | exact Nat.max_le.2 ⟨Nat.le_of_ble_eq_true rfl, bdl_no (ivs_no _)⟩ | exact Nat.max_le.2 ⟨Nat.le_of_ble_eq_true rfl, bdl_no (svs_no _)⟩ | apply And.intro))⟩
     ·refine bool_false (ltN_f hi3) ?_
      conv => whnf
      refine .inl ?_
      conv => whnf
      have pF := pF1 (prop_same hk5.2 hR hst hOR fun j h => hj j (by omega))
      repeat ((first
       |refine ko_sT k0 ?_
       |refine ko_rF k0 ?_
       |refine plan_as (pick_f k0) ?_
       |refine bool_false k0 ?_
       |refine sym_pure hC (pF) ?_
       |refine sym_pure hC (known) ?_
       |refine sym_drawn hS (by kernel_rfl) ?_); conv => whnf)
      exact ⟨_, rfl, Wk.refl _⟩
   ·have pO := pO0 hst
    have k1 : (!false) = true := rfl
    repeat ((first
     |refine ko_rT k1 ?_
     |refine ko_sF k1 ?_
     |refine plan_as (pick_t k1) ?_
     |refine bool_true k1 ?_
     |refine ko_sT (gft k1) ?_
     |refine ko_rF (gft k1) ?_
     |refine plan_as (pick_f (gft k1)) ?_
     |refine bool_false (gft k1) ?_
     |refine sym_pure hC (pO) ?_
     |refine sym_pure hC (known) ?_
     |refine sym_drawn hS (by kernel_rfl) ?_); conv => whnf)
    exact ⟨_, rfl, Wk.refl _⟩
theorem good_LN (known : Pure prog 13 [] (.bool true)) {L R : List LkI} (hL : L.length ≤ 10) {k p : Nat} (h : bkOk (Int.ofNat k) L) (hp : p ≤ L.length) (hR : BkS (blL L k) R) (hR10 : R.length ≤ 10) (hRn : R ≠ []) (hLn : L ≠ []) : Pure prog 4 [nv k, lkA L, .nils, nv p] (.bool true) := by
 obtain ⟨O, hO0⟩ : ∃ O : List LkI, O = [] := ⟨_, rfl⟩
 have hO : O.length ≤ 10 := by rw [hO0]; exact Nat.zero_le _
 have hx : LL (lkA L) L := .inr rfl
 have hy : LL .nils O := .inl ⟨rfl, hO0⟩
 have lL := lks_no L
 have lO := lks_no O
 have hk5 : 2 ≤ k ∧ k ≤ 5 := ⟨Int.ofNat_le.1 h.1.1, Int.ofNat_le.1 h.1.2⟩
 have pK := rBook_pure hx (Int.ofNat k) hL
 rw [decide_eq_true h] at pK
 have hs0 := bk_sum h
 have hbd := bk_bd h
 have pB := sBalances_yes hx h
 rw [show (Int.ofNat k).toNat = k from rfl] at pB
 have pS := settle_run hx h rfl hs0 hbd hR
 have hbT := trn_bk h p
 have hbt := trn_bal L p k
 have lb := ivs_no (blL L k)
 have hbl := blL_len L k
 have pQ := same_pure (blL L k) (blL L k) (by rw [hbl]; omega) (b := true) ⟨fun _ => rfl, fun _ => rfl⟩
 have pE := sameE_self R (by omega)
 have pSt := rStl_pure (by rw [hbl]; exact hk5) hbd (x := enV R) (L := R) (enV_LL R) hR10 (B := true) ⟨fun _ => st_stP (by rw [hbl]; exact hk5.2) hbd hR.st, fun _ => rfl⟩
 have pO1 : stP (blL L k) O → _ := fun hst => rStl_pure (by rw [hbl]; exact hk5) hbd hy hO (B := true) ⟨fun _ => hst, fun _ => rfl⟩
 have pO0 : ¬ stP (blL L k) O → _ := fun hst => rStl_pure (by rw [hbl]; exact hk5) hbd hy hO (B := false) ⟨fun z => (nomatch z), fun z => absurd z hst⟩
 have pF1 : O = R → _ := fun e => sameE_x hy (by omega) R (c := true) ⟨fun _ => e, fun _ => rfl⟩
 have c0 : decide ((L.length : Int) > 10) = false := decide_eq_false (by omega)
 have c1 : decide ((O.length : Int) > 10) = false := decide_eq_false (by omega)
 have c2 : decide (Int.ofNat p < 0) = false := decide_eq_false (by show ¬ (p : Int) < 0; omega)
 have c3 : decide (Int.ofNat p > (L.length : Int)) = false := decide_eq_false (by show ¬ (p : Int) > _; omega)
 have k0 : (!true) = false := rfl
 have cR : decide ((R.length : Int) > 10) = false := decide_eq_false (by omega)
 have lRR := lks_no R
 have eR : enV R = lkA R := if_neg hRn
 rw [eR] at pS pE pSt pF1
 have pTS : ∀ tv, LL tv (trn L p) → Pure prog 15 [nv k, tv] (.tup [lkA R, iv 0]) := fun tv hT => by
  have := settle_run hT hbT hbt.symm hs0 hbd hR
  rwa [eR] at this
 have pTB : ∀ tv, LL tv (trn L p) → Pure prog 14 [nv k, tv] (.tup [nl (blL L k), iv 0]) := fun tv hT => by
  have := sBalances_yes hT hbT
  rwa [show (Int.ofNat k).toNat = k from rfl, hbt] at this
 generalize blL L k = b at *
 have cbl : ((b.length : Int) != Int.ofNat k) = false := by rw [hbl]; exact bne_self_eq_false _
 obtain rfl : k = b.length := hbl.symm
 have tf := tak_from L p
 have tt := takN_lks L p hp
 have tD : takeN ((L.length - p) * 3) (lks (L.drop p)) = some (lks (L.drop p)) := by
  rw [show L.length - p = (L.drop p).length by rw [List.length_drop]]; exact takeN_lks _
 have tT : takeN (p * 3) (lks (L.take p)) = some (lks (L.take p)) := by
  have := takeN_lks (L.take p)
  rwa [List.length_take, Nat.min_eq_left hp] at this
 refine pure_symX hE rfl (by repeat' (first | exact trivial | assumption | exact flat_no _ | exact (fun _ h => nomatch h) | apply And.intro)) (by repeat' (first | exact trivial | assumption | exact flat_no _ | exact (fun _ h => nomatch h) | apply And.intro)) fun S q pc hS hq hC hE => ?_
 conv => whnf
 refine sym_seq (E := E q pc) hS (sym_code (E := E q pc) hE hS ?_)
 conv => whnf
 refine sym_seq (E := E q pc) hS (sym_code (E := E q pc) hE hS ?_)
 conv => whnf
 repeat ((first
  |refine ko_sT c0 ?_
  |refine ko_rF c0 ?_
  |refine plan_as (pick_f c0) ?_
  |refine bool_false c0 ?_
  |refine ko_rT (gff c0) ?_
  |refine ko_sF (gff c0) ?_
  |refine plan_as (pick_t (gff c0)) ?_
  |refine bool_true (gff c0) ?_
  |refine ko_sT c1 ?_
  |refine ko_rF c1 ?_
  |refine plan_as (pick_f c1) ?_
  |refine bool_false c1 ?_
  |refine ko_rT (gff c1) ?_
  |refine ko_sF (gff c1) ?_
  |refine plan_as (pick_t (gff c1)) ?_
  |refine bool_true (gff c1) ?_
  |refine ko_sT k0 ?_
  |refine ko_rF k0 ?_
  |refine plan_as (pick_f k0) ?_
  |refine bool_false k0 ?_
  |refine ko_rT (gff k0) ?_
  |refine ko_sF (gff k0) ?_
  |refine plan_as (pick_t (gff k0)) ?_
  |refine bool_true (gff k0) ?_
  |refine ko_sT c2 ?_
  |refine ko_rF c2 ?_
  |refine plan_as (pick_f c2) ?_
  |refine bool_false c2 ?_
  |refine ko_rT (gff c2) ?_
  |refine ko_sF (gff c2) ?_
  |refine plan_as (pick_t (gff c2)) ?_
  |refine bool_true (gff c2) ?_
  |refine ko_sT c3 ?_
  |refine ko_rF c3 ?_
  |refine plan_as (pick_f c3) ?_
  |refine bool_false c3 ?_
  |refine sym_pure hC (pK) ?_
  |refine sym_drawn hS (by kernel_rfl) ?_); conv => whnf)
 refine sym_seqG (E := E q pc) hS (A := AV) [0, 1, 2] (fun tv => [(9, tv)]) (fun _ => []) (fun _ => []) (fun tv => LL tv (trn L p)) (Nat.le_of_ble_eq_true rfl) (sym_code (E := E q pc) hE hS ?_) ?_
 ·conv => whnf
  by_cases hpl : p < L.length
  ·obtain ⟨d, hd⟩ : ∃ d, L.length - p = d + 1 := ⟨L.length - p - 1, by omega⟩
   refine plan_as (slFrom (e := 38) (by kernel_rfl) rfl rfl hp (by exact tf)) ?_
   conv => whnf
   refine bool_true (decide_eq_true (show p * 3 ≤ (lks L).length by rw [lks_len]; omega)) ?_
   conv => whnf
   refine plan_as (pSrc_eq (e := 38) (ys := lks (L.drop p)) (m := L.length - p) (own := .no) (l := lks (L.drop p)) (by kernel_rfl) rfl (by exact tD)) ?_
   rw [hd]
   conv => whnf
   refine bool_true (allCells_lks (L.drop p)) ?_
   conv => whnf
   refine bool_true (decide_eq_true (show (d + 1) * 24 ≤ 140737488355328 by omega)) ?_
   conv => whnf
   refine bool_true (decide_eq_true (show d + 1 ≤ 9223372036854775807 by omega)) ?_
   conv => whnf
   refine plan_as (slTo (e := 38) (by kernel_rfl) rfl rfl hp (by exact tt)) ?_
   conv => whnf
   refine plan_as (pSrc_eq (e := 38) (ys := lks (L.take p)) (m := p) (own := .no) (l := lks (L.take p)) (by kernel_rfl) rfl (by exact tT)) ?_
   by_cases hp0 : p = 0
   ·rw [hp0]
    conv => whnf
    refine sym_drawn hS (by kernel_rfl) ?_
    conv => whnf
    have eT : AV.lst (lks (L.drop 0)) (d + 1) .no = lkA (trn L 0) := by
     rw [hp0] at hd
     unfold trn lkA
     rw [List.drop_zero, List.take_zero, List.append_nil, ← hd, Nat.sub_zero]
    exact ⟨lkA (trn L 0), .inr rfl, (by refine ⟨rfl, rfl, rfl, rfl, rfl, rfl, 0, rfl, ?_, ?_⟩ <;> repeat' (first | exact trivial | exact rfl | exact ⟨_, rfl, WkV.refl _⟩ | exact ⟨_, rfl, WkV.own _ _ _⟩ | exact Nat.zero_le _ | exact ⟨_, rfl, WkV.trans (WkV.own _ _ _) (WkV.eq eT)⟩ | exact bz (lkA_no _) | exact bdl_no lL | exact bdl_no lO | exact Nat.le_of_ble_eq_true rfl | exact bdl_no (by assumption) | exact bdl_no (flat_no _) | exact bdl_no (ivs_no _) | exact bdl_no (svs_no _) | exact Nat.max_le.2 ⟨Nat.le_of_ble_eq_true rfl, bdl_no (ivs_no _)⟩ | exact Nat.max_le.2 ⟨Nat.le_of_ble_eq_true rfl, bdl_no (svs_no _)⟩ | apply And.intro))⟩
   ·obtain ⟨r, hpr⟩ : ∃ r, p = r + 1 := ⟨p - 1, by omega⟩
    rw [hpr]
    conv => whnf
    have lenT : lenIs (lks (L.drop p)) ((d + 1) * 3) = true := by
     have := lenIs_en (L.drop p)
     rwa [List.length_drop, hd] at this
    rw [hpr] at lenT
    refine bool_true (allCells_lks (L.take (r + 1))) ?_
    conv => whnf
    refine bool_true (decide_eq_true (show (d + 1 + (r + 1)) * 24 ≤ 140737488355328 by omega)) ?_
    conv => whnf
    refine bool_true (decide_eq_true (show d + 1 + (r + 1) ≤ 9223372036854775807 by omega)) ?_
    conv => whnf
    refine bool_true (lenT) ?_
    conv => whnf
    refine bool_true (decide_eq_true rfl) ?_
    conv => whnf
    refine sym_drawn hS (by kernel_rfl) ?_
    conv => whnf
    have eT : AV.lst (lks (L.drop (r + 1)) ++ lks (L.take (r + 1))) (d + 1 + (r + 1)) .no = lkA (trn L (r + 1)) := by
     rw [← lks_app, show d + 1 + (r + 1) = (trn L (r + 1)).length by rw [trn_len]; omega]; rfl
    exact ⟨lkA (trn L (r + 1)), .inr rfl, (by refine ⟨rfl, rfl, rfl, rfl, rfl, rfl, 0, rfl, ?_, ?_⟩ <;> repeat' (first | exact trivial | exact rfl | exact ⟨_, rfl, WkV.refl _⟩ | exact ⟨_, rfl, WkV.own _ _ _⟩ | exact Nat.zero_le _ | exact ⟨_, rfl, WkV.trans (WkV.own _ _ _) (WkV.eq eT)⟩ | exact bz (lkA_no _) | exact bdl_no lL | exact bdl_no lO | exact Nat.le_of_ble_eq_true rfl | exact bdl_no (by assumption) | exact bdl_no (flat_no _) | exact bdl_no (ivs_no _) | exact bdl_no (svs_no _) | exact Nat.max_le.2 ⟨Nat.le_of_ble_eq_true rfl, bdl_no (ivs_no _)⟩ | exact Nat.max_le.2 ⟨Nat.le_of_ble_eq_true rfl, bdl_no (svs_no _)⟩ | apply And.intro))⟩
  ·have hd : L.length - p = 0 := by omega
   refine plan_as (slFrom (e := 38) (by kernel_rfl) rfl rfl hp (by exact tf)) ?_
   conv => whnf
   refine bool_true (decide_eq_true (show p * 3 ≤ (lks L).length by rw [lks_len]; omega)) ?_
   conv => whnf
   refine plan_as (pSrc_eq (e := 38) (ys := lks (L.drop p)) (m := L.length - p) (own := .no) (l := lks (L.drop p)) (by kernel_rfl) rfl (by exact tD)) ?_
   rw [hd]
   conv => whnf
   refine bool_true (allCells_lks (L.drop p)) ?_
   conv => whnf
   refine plan_as (slTo (e := 38) (by kernel_rfl) rfl rfl hp (by exact tt)) ?_
   conv => whnf
   refine plan_as (pSrc_eq (e := 38) (ys := lks (L.take p)) (m := p) (own := .no) (l := lks (L.take p)) (by kernel_rfl) rfl (by exact tT)) ?_
   by_cases hp0 : p = 0
   ·rw [hp0]
    conv => whnf
    refine sym_drawn hS (by kernel_rfl) ?_
    conv => whnf
    have e0 : trn L 0 = [] := List.length_eq_zero_iff.1 (by rw [trn_len]; omega)
    exact ⟨.nils, .inl ⟨rfl, e0⟩, (by refine ⟨rfl, rfl, rfl, rfl, rfl, rfl, 0, rfl, ?_, ?_⟩ <;> repeat' (first | exact trivial | exact rfl | exact ⟨_, rfl, WkV.refl _⟩ | exact ⟨_, rfl, WkV.own _ _ _⟩ | exact Nat.zero_le _ | exact bdl_no lL | exact bdl_no lO | exact Nat.le_of_ble_eq_true rfl | exact bdl_no (by assumption) | exact bdl_no (flat_no _) | exact bdl_no (ivs_no _) | exact bdl_no (svs_no _) | exact Nat.max_le.2 ⟨Nat.le_of_ble_eq_true rfl, bdl_no (ivs_no _)⟩ | exact Nat.max_le.2 ⟨Nat.le_of_ble_eq_true rfl, bdl_no (svs_no _)⟩ | apply And.intro))⟩
   ·obtain ⟨r, hpr⟩ : ∃ r, p = r + 1 := ⟨p - 1, by omega⟩
    rw [hpr]
    conv => whnf
    refine bool_true (allCells_lks (L.take (r + 1))) ?_
    conv => whnf
    refine bool_true (decide_eq_true (show (r + 1) * 24 ≤ 140737488355328 by omega)) ?_
    conv => whnf
    refine bool_true (decide_eq_true (show r + 1 ≤ 9223372036854775807 by omega)) ?_
    conv => whnf
    refine sym_drawn hS (by kernel_rfl) ?_
    conv => whnf
    have eT : AV.lst (lks (L.take (r + 1))) (r + 1) .no = lkA (trn L (r + 1)) := by
     unfold trn lkA
     rw [List.drop_eq_nil_of_le (by omega), List.nil_append, List.length_take, Nat.min_eq_left (by omega)]
    exact ⟨lkA (trn L (r + 1)), .inr rfl, (by refine ⟨rfl, rfl, rfl, rfl, rfl, rfl, 0, rfl, ?_, ?_⟩ <;> repeat' (first | exact trivial | exact rfl | exact ⟨_, rfl, WkV.refl _⟩ | exact ⟨_, rfl, WkV.own _ _ _⟩ | exact Nat.zero_le _ | exact ⟨_, rfl, WkV.trans (WkV.own _ _ _) (WkV.eq eT)⟩ | exact bz (lkA_no _) | exact bdl_no lL | exact bdl_no lO | exact Nat.le_of_ble_eq_true rfl | exact bdl_no (by assumption) | exact bdl_no (flat_no _) | exact bdl_no (ivs_no _) | exact bdl_no (svs_no _) | exact Nat.max_le.2 ⟨Nat.le_of_ble_eq_true rfl, bdl_no (ivs_no _)⟩ | exact Nat.max_le.2 ⟨Nat.le_of_ble_eq_true rfl, bdl_no (svs_no _)⟩ | apply And.intro))⟩
 ·intro tv hT Q hQ
  obtain rfl : Q = 0 := hQ
  have pTB := pTB tv hT
  have pTS := pTS tv hT
  have hT : tv = lkA (trn L p) := hT.resolve_left fun z => hLn (List.length_eq_zero_iff.1 (by rw [← trn_len L p, z.2]; rfl))
  subst hT
  refine sym_code (E := E q pc) hE hS ?_
  conv => whnf
  repeat ((first
   |refine ko_sT cbl ?_
   |refine ko_rF cbl ?_
   |refine plan_as (pick_f cbl) ?_
   |refine bool_false cbl ?_
   |refine ko_sT cR ?_
   |refine ko_rF cR ?_
   |refine plan_as (pick_f cR) ?_
   |refine bool_false cR ?_
   |refine sym_pure hC (pB) ?_
   |refine sym_pure hC (pS) ?_
   |refine sym_pure hC (pTB) ?_
   |refine sym_pure hC (pTS) ?_
   |refine sym_pure hC (pQ) ?_
   |refine sym_pure hC (pE) ?_
   |refine sym_drawn hS (by kernel_rfl) ?_); conv => whnf)
  refine sym_loopG hE hS (A := Nat) [2, 10, 12] (fun i => [(18, iv (sumN i fun a => b.getD a 0)), (19, nv i)]) (fun _ => []) (fun _ => []) (fun i => i ≤ b.length) (fun i => b.length - i) 0 (Nat.le_of_ble_eq_true rfl) rfl (by refine ⟨rfl, rfl, rfl, rfl, rfl, rfl, 0, rfl, ?_, ?_⟩ <;> repeat' (first | exact trivial | exact rfl | exact ⟨_, rfl, WkV.refl _⟩ | exact ⟨_, rfl, WkV.own _ _ _⟩ | exact Nat.zero_le _ | exact bdl_no lb | exact bdl_no lO | exact bdl_no lRR | exact Nat.le_of_ble_eq_true rfl | exact bdl_no (by assumption) | exact bdl_no (flat_no _) | exact bdl_no (ivs_no _) | exact bdl_no (svs_no _) | exact Nat.max_le.2 ⟨Nat.le_of_ble_eq_true rfl, bdl_no (ivs_no _)⟩ | exact Nat.max_le.2 ⟨Nat.le_of_ble_eq_true rfl, bdl_no (svs_no _)⟩ | apply And.intro)) (Nat.zero_le _) ?_
  intro i hi Q hQ
  obtain rfl : Q = 0 := hQ
  conv => whnf
  by_cases hi2 : i < b.length
  ·have gi := nth_ivs1 (l := b) (i := i) hi2
   have hbi := hbd i hi2
   have e1 : decide (b.getD i 0 < -8000000) = false := decide_eq_false (by omega)
   have e2 : decide (b.getD i 0 > 8000000) = false := decide_eq_false (by omega)
   have hsm := sum_bd hbd (i := i) hi
   have hw : IntKind.i64.wrap ((sumN i fun a => b.getD a 0) + b.getD i 0) = sumN (i + 1) fun a => b.getD a 0 := wrapI (by omega) (by omega)
   repeat ((first
    |refine plan_as (nthP gi) ?_
    |refine ko_rT (ltN_t hi2) ?_
    |refine ko_sF (ltN_t hi2) ?_
    |refine plan_as (pick_t (ltN_t hi2)) ?_
    |refine bool_true (ltN_t hi2) ?_
    |refine ko_sT (ltN_t hi2) ?_
    |refine ko_rF (ltN_t hi2) ?_
    |refine plan_as (pick_f (ltN_t hi2)) ?_
    |refine bool_false (ltN_t hi2) ?_
    |refine ko_rT (inR_t hi2) ?_
    |refine ko_sF (inR_t hi2) ?_
    |refine plan_as (pick_t (inR_t hi2)) ?_
    |refine bool_true (inR_t hi2) ?_
    |refine ko_sT e1 ?_
    |refine ko_rF e1 ?_
    |refine plan_as (pick_f e1) ?_
    |refine bool_false e1 ?_
    |refine ko_rT (gff e1) ?_
    |refine ko_sF (gff e1) ?_
    |refine plan_as (pick_t (gff e1)) ?_
    |refine bool_true (gff e1) ?_
    |refine ko_sT e2 ?_
    |refine ko_rF e2 ?_
    |refine plan_as (pick_f e2) ?_
    |refine bool_false e2 ?_
    |refine sym_drawn hS (by kernel_rfl) ?_); conv => whnf)
   exact ⟨i + 1, hi2, by omega, Nat.le_refl _, (by refine ⟨rfl, rfl, rfl, rfl, rfl, rfl, 0, rfl, ?_, ?_⟩ <;> repeat' (first | exact trivial | exact rfl | exact ⟨_, rfl, WkV.refl _⟩ | exact ⟨_, rfl, WkV.own _ _ _⟩ | exact Nat.zero_le _ | exact ⟨_, rfl, WkV.int hw⟩ | exact ⟨_, rfl, WkV.int (show IntKind.i64.wrap (Int.ofNat i + 1) = Int.ofNat (i + 1) from wrapN (m := i + 1) (by omega))⟩ | exact bdl_no lb | exact bdl_no lO | exact bdl_no lRR | exact Nat.le_of_ble_eq_true rfl | exact bdl_no (by assumption) | exact bdl_no (flat_no _) | exact bdl_no (ivs_no _) | exact bdl_no (svs_no _) | exact Nat.max_le.2 ⟨Nat.le_of_ble_eq_true rfl, bdl_no (ivs_no _)⟩ | exact Nat.max_le.2 ⟨Nat.le_of_ble_eq_true rfl, bdl_no (svs_no _)⟩ | apply And.intro))⟩
  ·refine bool_false (ltN_f hi2) ?_
   conv => whnf
   refine .inl ?_
   conv => whnf
   have ei : i = b.length := by omega
   have e3 : ((sumN i fun a => b.getD a 0) != 0) = false := by rw [ei, hs0]; rfl
   repeat ((first
    |refine ko_sT e3 ?_
    |refine ko_rF e3 ?_
    |refine plan_as (pick_f e3) ?_
    |refine bool_false e3 ?_
    |refine ko_rT (gff e3) ?_
    |refine ko_sF (gff e3) ?_
    |refine plan_as (pick_t (gff e3)) ?_
    |refine bool_true (gff e3) ?_
    |refine ko_sT k0 ?_
    |refine ko_rF k0 ?_
    |refine plan_as (pick_f k0) ?_
    |refine bool_false k0 ?_
    |refine ko_rT (gff k0) ?_
    |refine ko_sF (gff k0) ?_
    |refine plan_as (pick_t (gff k0)) ?_
    |refine bool_true (gff k0) ?_
    |refine sym_pure hC (pSt) ?_
    |refine sym_drawn hS (by kernel_rfl) ?_); conv => whnf)
   by_cases hst : stP b O
   ·have pO := pO1 hst
    have hlen := prop_len hk5.2 hR hst
    exact absurd (show O.length < R.length by rw [hO0]; exact Nat.pos_of_ne_zero fun z => hRn (List.length_eq_zero_iff.1 z)) hlen
   ·have pO := pO0 hst
    have k1 : (!false) = true := rfl
    repeat ((first
     |refine ko_rT k1 ?_
     |refine ko_sF k1 ?_
     |refine plan_as (pick_t k1) ?_
     |refine bool_true k1 ?_
     |refine ko_sT (gft k1) ?_
     |refine ko_rF (gft k1) ?_
     |refine plan_as (pick_f (gft k1)) ?_
     |refine bool_false (gft k1) ?_
     |refine sym_pure hC (pO) ?_
     |refine sym_pure hC (known) ?_
     |refine sym_drawn hS (by kernel_rfl) ?_); conv => whnf)
    exact ⟨_, rfl, Wk.refl _⟩
theorem zero_LL (known : Pure prog 13 [] (.bool true)) {L O : List LkI} (hL : L.length ≤ 10) (hO : O.length ≤ 10) {k p : Nat} (h : bkOk (Int.ofNat k) L) (hp : p ≤ L.length) (hR : BkS (blL L k) []) : Pure prog 4 [nv k, lkA L, lkA O, nv p] (.bool true) := by
 obtain ⟨R, hR0⟩ : ∃ R : List LkI, R = [] := ⟨_, rfl⟩
 rw [← hR0] at hR
 have hR10 : R.length ≤ 10 := by rw [hR0]; exact Nat.zero_le _
 have hx : LL (lkA L) L := .inr rfl
 have hy : LL (lkA O) O := .inr rfl
 have lL := lks_no L
 have lO := lks_no O
 have hk5 : 2 ≤ k ∧ k ≤ 5 := ⟨Int.ofNat_le.1 h.1.1, Int.ofNat_le.1 h.1.2⟩
 have pK := rBook_pure hx (Int.ofNat k) hL
 rw [decide_eq_true h] at pK
 have hs0 := bk_sum h
 have hbd := bk_bd h
 have pB := sBalances_yes hx h
 rw [show (Int.ofNat k).toNat = k from rfl] at pB
 have pS := settle_run hx h rfl hs0 hbd hR
 have hbT := trn_bk h p
 have hbt := trn_bal L p k
 have lb := ivs_no (blL L k)
 have hbl := blL_len L k
 have pQ := same_pure (blL L k) (blL L k) (by rw [hbl]; omega) (b := true) ⟨fun _ => rfl, fun _ => rfl⟩
 have pE := sameE_self R (by omega)
 have pSt := rStl_pure (by rw [hbl]; exact hk5) hbd (x := enV R) (L := R) (enV_LL R) hR10 (B := true) ⟨fun _ => st_stP (by rw [hbl]; exact hk5.2) hbd hR.st, fun _ => rfl⟩
 have pO1 : stP (blL L k) O → _ := fun hst => rStl_pure (by rw [hbl]; exact hk5) hbd hy hO (B := true) ⟨fun _ => hst, fun _ => rfl⟩
 have pO0 : ¬ stP (blL L k) O → _ := fun hst => rStl_pure (by rw [hbl]; exact hk5) hbd hy hO (B := false) ⟨fun z => (nomatch z), fun z => absurd z hst⟩
 have pF1 : O = R → _ := fun e => sameE_x hy (by omega) R (c := true) ⟨fun _ => e, fun _ => rfl⟩
 have c0 : decide ((L.length : Int) > 10) = false := decide_eq_false (by omega)
 have c1 : decide ((O.length : Int) > 10) = false := decide_eq_false (by omega)
 have c2 : decide (Int.ofNat p < 0) = false := decide_eq_false (by show ¬ (p : Int) < 0; omega)
 have c3 : decide (Int.ofNat p > (L.length : Int)) = false := decide_eq_false (by show ¬ (p : Int) > _; omega)
 have k0 : (!true) = false := rfl
 have cR : decide ((R.length : Int) > 10) = false := decide_eq_false (by omega)
 have lRR := lks_no R
 have eR : enV R = .nils := if_pos hR0
 rw [eR] at pS pE pSt pF1
 have pTS : ∀ tv, LL tv (trn L p) → Pure prog 15 [nv k, tv] (.tup [.nils, iv 0]) := fun tv hT => by
  have := settle_run hT hbT hbt.symm hs0 hbd hR
  rwa [eR] at this
 have pTB : ∀ tv, LL tv (trn L p) → Pure prog 14 [nv k, tv] (.tup [nl (blL L k), iv 0]) := fun tv hT => by
  have := sBalances_yes hT hbT
  rwa [show (Int.ofNat k).toNat = k from rfl, hbt] at this
 generalize blL L k = b at *
 have cbl : ((b.length : Int) != Int.ofNat k) = false := by rw [hbl]; exact bne_self_eq_false _
 obtain rfl : k = b.length := hbl.symm
 have tf := tak_from L p
 have tt := takN_lks L p hp
 have tD : takeN ((L.length - p) * 3) (lks (L.drop p)) = some (lks (L.drop p)) := by
  rw [show L.length - p = (L.drop p).length by rw [List.length_drop]]; exact takeN_lks _
 have tT : takeN (p * 3) (lks (L.take p)) = some (lks (L.take p)) := by
  have := takeN_lks (L.take p)
  rwa [List.length_take, Nat.min_eq_left hp] at this
 refine pure_symX hE rfl (by repeat' (first | exact trivial | assumption | exact flat_no _ | exact (fun _ h => nomatch h) | apply And.intro)) (by repeat' (first | exact trivial | assumption | exact flat_no _ | exact (fun _ h => nomatch h) | apply And.intro)) fun S q pc hS hq hC hE => ?_
 conv => whnf
 refine sym_seq (E := E q pc) hS (sym_code (E := E q pc) hE hS ?_)
 conv => whnf
 refine sym_seq (E := E q pc) hS (sym_code (E := E q pc) hE hS ?_)
 conv => whnf
 repeat ((first
  |refine ko_sT c0 ?_
  |refine ko_rF c0 ?_
  |refine plan_as (pick_f c0) ?_
  |refine bool_false c0 ?_
  |refine ko_rT (gff c0) ?_
  |refine ko_sF (gff c0) ?_
  |refine plan_as (pick_t (gff c0)) ?_
  |refine bool_true (gff c0) ?_
  |refine ko_sT c1 ?_
  |refine ko_rF c1 ?_
  |refine plan_as (pick_f c1) ?_
  |refine bool_false c1 ?_
  |refine ko_rT (gff c1) ?_
  |refine ko_sF (gff c1) ?_
  |refine plan_as (pick_t (gff c1)) ?_
  |refine bool_true (gff c1) ?_
  |refine ko_sT k0 ?_
  |refine ko_rF k0 ?_
  |refine plan_as (pick_f k0) ?_
  |refine bool_false k0 ?_
  |refine ko_rT (gff k0) ?_
  |refine ko_sF (gff k0) ?_
  |refine plan_as (pick_t (gff k0)) ?_
  |refine bool_true (gff k0) ?_
  |refine ko_sT c2 ?_
  |refine ko_rF c2 ?_
  |refine plan_as (pick_f c2) ?_
  |refine bool_false c2 ?_
  |refine ko_rT (gff c2) ?_
  |refine ko_sF (gff c2) ?_
  |refine plan_as (pick_t (gff c2)) ?_
  |refine bool_true (gff c2) ?_
  |refine ko_sT c3 ?_
  |refine ko_rF c3 ?_
  |refine plan_as (pick_f c3) ?_
  |refine bool_false c3 ?_
  |refine sym_pure hC (pK) ?_
  |refine sym_drawn hS (by kernel_rfl) ?_); conv => whnf)
 refine sym_seqG (E := E q pc) hS (A := AV) [0, 1, 2] (fun tv => [(9, tv)]) (fun _ => []) (fun _ => []) (fun tv => LL tv (trn L p)) (Nat.le_of_ble_eq_true rfl) (sym_code (E := E q pc) hE hS ?_) ?_
 ·conv => whnf
  by_cases hpl : p < L.length
  ·obtain ⟨d, hd⟩ : ∃ d, L.length - p = d + 1 := ⟨L.length - p - 1, by omega⟩
   refine plan_as (slFrom (e := 38) (by kernel_rfl) rfl rfl hp (by exact tf)) ?_
   conv => whnf
   refine bool_true (decide_eq_true (show p * 3 ≤ (lks L).length by rw [lks_len]; omega)) ?_
   conv => whnf
   refine plan_as (pSrc_eq (e := 38) (ys := lks (L.drop p)) (m := L.length - p) (own := .no) (l := lks (L.drop p)) (by kernel_rfl) rfl (by exact tD)) ?_
   rw [hd]
   conv => whnf
   refine bool_true (allCells_lks (L.drop p)) ?_
   conv => whnf
   refine bool_true (decide_eq_true (show (d + 1) * 24 ≤ 140737488355328 by omega)) ?_
   conv => whnf
   refine bool_true (decide_eq_true (show d + 1 ≤ 9223372036854775807 by omega)) ?_
   conv => whnf
   refine plan_as (slTo (e := 38) (by kernel_rfl) rfl rfl hp (by exact tt)) ?_
   conv => whnf
   refine plan_as (pSrc_eq (e := 38) (ys := lks (L.take p)) (m := p) (own := .no) (l := lks (L.take p)) (by kernel_rfl) rfl (by exact tT)) ?_
   by_cases hp0 : p = 0
   ·rw [hp0]
    conv => whnf
    refine sym_drawn hS (by kernel_rfl) ?_
    conv => whnf
    have eT : AV.lst (lks (L.drop 0)) (d + 1) .no = lkA (trn L 0) := by
     rw [hp0] at hd
     unfold trn lkA
     rw [List.drop_zero, List.take_zero, List.append_nil, ← hd, Nat.sub_zero]
    exact ⟨lkA (trn L 0), .inr rfl, (by refine ⟨rfl, rfl, rfl, rfl, rfl, rfl, 0, rfl, ?_, ?_⟩ <;> repeat' (first | exact trivial | exact rfl | exact ⟨_, rfl, WkV.refl _⟩ | exact ⟨_, rfl, WkV.own _ _ _⟩ | exact Nat.zero_le _ | exact ⟨_, rfl, WkV.trans (WkV.own _ _ _) (WkV.eq eT)⟩ | exact bz (lkA_no _) | exact bdl_no lL | exact bdl_no lO | exact Nat.le_of_ble_eq_true rfl | exact bdl_no (by assumption) | exact bdl_no (flat_no _) | exact bdl_no (ivs_no _) | exact bdl_no (svs_no _) | exact Nat.max_le.2 ⟨Nat.le_of_ble_eq_true rfl, bdl_no (ivs_no _)⟩ | exact Nat.max_le.2 ⟨Nat.le_of_ble_eq_true rfl, bdl_no (svs_no _)⟩ | apply And.intro))⟩
   ·obtain ⟨r, hpr⟩ : ∃ r, p = r + 1 := ⟨p - 1, by omega⟩
    rw [hpr]
    conv => whnf
    have lenT : lenIs (lks (L.drop p)) ((d + 1) * 3) = true := by
     have := lenIs_en (L.drop p)
     rwa [List.length_drop, hd] at this
    rw [hpr] at lenT
    refine bool_true (allCells_lks (L.take (r + 1))) ?_
    conv => whnf
    refine bool_true (decide_eq_true (show (d + 1 + (r + 1)) * 24 ≤ 140737488355328 by omega)) ?_
    conv => whnf
    refine bool_true (decide_eq_true (show d + 1 + (r + 1) ≤ 9223372036854775807 by omega)) ?_
    conv => whnf
    refine bool_true (lenT) ?_
    conv => whnf
    refine bool_true (decide_eq_true rfl) ?_
    conv => whnf
    refine sym_drawn hS (by kernel_rfl) ?_
    conv => whnf
    have eT : AV.lst (lks (L.drop (r + 1)) ++ lks (L.take (r + 1))) (d + 1 + (r + 1)) .no = lkA (trn L (r + 1)) := by
     rw [← lks_app, show d + 1 + (r + 1) = (trn L (r + 1)).length by rw [trn_len]; omega]; rfl
    exact ⟨lkA (trn L (r + 1)), .inr rfl, (by refine ⟨rfl, rfl, rfl, rfl, rfl, rfl, 0, rfl, ?_, ?_⟩ <;> repeat' (first | exact trivial | exact rfl | exact ⟨_, rfl, WkV.refl _⟩ | exact ⟨_, rfl, WkV.own _ _ _⟩ | exact Nat.zero_le _ | exact ⟨_, rfl, WkV.trans (WkV.own _ _ _) (WkV.eq eT)⟩ | exact bz (lkA_no _) | exact bdl_no lL | exact bdl_no lO | exact Nat.le_of_ble_eq_true rfl | exact bdl_no (by assumption) | exact bdl_no (flat_no _) | exact bdl_no (ivs_no _) | exact bdl_no (svs_no _) | exact Nat.max_le.2 ⟨Nat.le_of_ble_eq_true rfl, bdl_no (ivs_no _)⟩ | exact Nat.max_le.2 ⟨Nat.le_of_ble_eq_true rfl, bdl_no (svs_no _)⟩ | apply And.intro))⟩
  ·have hd : L.length - p = 0 := by omega
   refine plan_as (slFrom (e := 38) (by kernel_rfl) rfl rfl hp (by exact tf)) ?_
   conv => whnf
   refine bool_true (decide_eq_true (show p * 3 ≤ (lks L).length by rw [lks_len]; omega)) ?_
   conv => whnf
   refine plan_as (pSrc_eq (e := 38) (ys := lks (L.drop p)) (m := L.length - p) (own := .no) (l := lks (L.drop p)) (by kernel_rfl) rfl (by exact tD)) ?_
   rw [hd]
   conv => whnf
   refine bool_true (allCells_lks (L.drop p)) ?_
   conv => whnf
   refine plan_as (slTo (e := 38) (by kernel_rfl) rfl rfl hp (by exact tt)) ?_
   conv => whnf
   refine plan_as (pSrc_eq (e := 38) (ys := lks (L.take p)) (m := p) (own := .no) (l := lks (L.take p)) (by kernel_rfl) rfl (by exact tT)) ?_
   by_cases hp0 : p = 0
   ·rw [hp0]
    conv => whnf
    refine sym_drawn hS (by kernel_rfl) ?_
    conv => whnf
    have e0 : trn L 0 = [] := List.length_eq_zero_iff.1 (by rw [trn_len]; omega)
    exact ⟨.nils, .inl ⟨rfl, e0⟩, (by refine ⟨rfl, rfl, rfl, rfl, rfl, rfl, 0, rfl, ?_, ?_⟩ <;> repeat' (first | exact trivial | exact rfl | exact ⟨_, rfl, WkV.refl _⟩ | exact ⟨_, rfl, WkV.own _ _ _⟩ | exact Nat.zero_le _ | exact bdl_no lL | exact bdl_no lO | exact Nat.le_of_ble_eq_true rfl | exact bdl_no (by assumption) | exact bdl_no (flat_no _) | exact bdl_no (ivs_no _) | exact bdl_no (svs_no _) | exact Nat.max_le.2 ⟨Nat.le_of_ble_eq_true rfl, bdl_no (ivs_no _)⟩ | exact Nat.max_le.2 ⟨Nat.le_of_ble_eq_true rfl, bdl_no (svs_no _)⟩ | apply And.intro))⟩
   ·obtain ⟨r, hpr⟩ : ∃ r, p = r + 1 := ⟨p - 1, by omega⟩
    rw [hpr]
    conv => whnf
    refine bool_true (allCells_lks (L.take (r + 1))) ?_
    conv => whnf
    refine bool_true (decide_eq_true (show (r + 1) * 24 ≤ 140737488355328 by omega)) ?_
    conv => whnf
    refine bool_true (decide_eq_true (show r + 1 ≤ 9223372036854775807 by omega)) ?_
    conv => whnf
    refine sym_drawn hS (by kernel_rfl) ?_
    conv => whnf
    have eT : AV.lst (lks (L.take (r + 1))) (r + 1) .no = lkA (trn L (r + 1)) := by
     unfold trn lkA
     rw [List.drop_eq_nil_of_le (by omega), List.nil_append, List.length_take, Nat.min_eq_left (by omega)]
    exact ⟨lkA (trn L (r + 1)), .inr rfl, (by refine ⟨rfl, rfl, rfl, rfl, rfl, rfl, 0, rfl, ?_, ?_⟩ <;> repeat' (first | exact trivial | exact rfl | exact ⟨_, rfl, WkV.refl _⟩ | exact ⟨_, rfl, WkV.own _ _ _⟩ | exact Nat.zero_le _ | exact ⟨_, rfl, WkV.trans (WkV.own _ _ _) (WkV.eq eT)⟩ | exact bz (lkA_no _) | exact bdl_no lL | exact bdl_no lO | exact Nat.le_of_ble_eq_true rfl | exact bdl_no (by assumption) | exact bdl_no (flat_no _) | exact bdl_no (ivs_no _) | exact bdl_no (svs_no _) | exact Nat.max_le.2 ⟨Nat.le_of_ble_eq_true rfl, bdl_no (ivs_no _)⟩ | exact Nat.max_le.2 ⟨Nat.le_of_ble_eq_true rfl, bdl_no (svs_no _)⟩ | apply And.intro))⟩
 ·intro tv hT Q hQ
  obtain rfl : Q = 0 := hQ
  have pTB := pTB tv hT
  have pTS := pTS tv hT
  rcases hT with ⟨rfl, hT⟩ | rfl
  all_goals
   refine sym_code (E := E q pc) hE hS ?_
   conv => whnf
   repeat ((first
    |refine ko_sT cbl ?_
    |refine ko_rF cbl ?_
    |refine plan_as (pick_f cbl) ?_
    |refine bool_false cbl ?_
    |refine ko_sT cR ?_
    |refine ko_rF cR ?_
    |refine plan_as (pick_f cR) ?_
    |refine bool_false cR ?_
    |refine sym_pure hC (pB) ?_
    |refine sym_pure hC (pS) ?_
    |refine sym_pure hC (pTB) ?_
    |refine sym_pure hC (pTS) ?_
    |refine sym_pure hC (pQ) ?_
    |refine sym_pure hC (pE) ?_
    |refine sym_drawn hS (by kernel_rfl) ?_); conv => whnf)
   refine sym_loopG hE hS (A := Nat) [2, 10, 12] (fun i => [(18, iv (sumN i fun a => b.getD a 0)), (19, nv i)]) (fun _ => []) (fun _ => []) (fun i => i ≤ b.length) (fun i => b.length - i) 0 (Nat.le_of_ble_eq_true rfl) rfl (by refine ⟨rfl, rfl, rfl, rfl, rfl, rfl, 0, rfl, ?_, ?_⟩ <;> repeat' (first | exact trivial | exact rfl | exact ⟨_, rfl, WkV.refl _⟩ | exact ⟨_, rfl, WkV.own _ _ _⟩ | exact Nat.zero_le _ | exact bdl_no lb | exact bdl_no lO | exact bdl_no lRR | exact Nat.le_of_ble_eq_true rfl | exact bdl_no (by assumption) | exact bdl_no (flat_no _) | exact bdl_no (ivs_no _) | exact bdl_no (svs_no _) | exact Nat.max_le.2 ⟨Nat.le_of_ble_eq_true rfl, bdl_no (ivs_no _)⟩ | exact Nat.max_le.2 ⟨Nat.le_of_ble_eq_true rfl, bdl_no (svs_no _)⟩ | apply And.intro)) (Nat.zero_le _) ?_
   intro i hi Q hQ
   obtain rfl : Q = 0 := hQ
   conv => whnf
   by_cases hi2 : i < b.length
   ·have gi := nth_ivs1 (l := b) (i := i) hi2
    have hbi := hbd i hi2
    have e1 : decide (b.getD i 0 < -8000000) = false := decide_eq_false (by omega)
    have e2 : decide (b.getD i 0 > 8000000) = false := decide_eq_false (by omega)
    have hsm := sum_bd hbd (i := i) hi
    have hw : IntKind.i64.wrap ((sumN i fun a => b.getD a 0) + b.getD i 0) = sumN (i + 1) fun a => b.getD a 0 := wrapI (by omega) (by omega)
    repeat ((first
     |refine plan_as (nthP gi) ?_
     |refine ko_rT (ltN_t hi2) ?_
     |refine ko_sF (ltN_t hi2) ?_
     |refine plan_as (pick_t (ltN_t hi2)) ?_
     |refine bool_true (ltN_t hi2) ?_
     |refine ko_sT (ltN_t hi2) ?_
     |refine ko_rF (ltN_t hi2) ?_
     |refine plan_as (pick_f (ltN_t hi2)) ?_
     |refine bool_false (ltN_t hi2) ?_
     |refine ko_rT (inR_t hi2) ?_
     |refine ko_sF (inR_t hi2) ?_
     |refine plan_as (pick_t (inR_t hi2)) ?_
     |refine bool_true (inR_t hi2) ?_
     |refine ko_sT e1 ?_
     |refine ko_rF e1 ?_
     |refine plan_as (pick_f e1) ?_
     |refine bool_false e1 ?_
     |refine ko_rT (gff e1) ?_
     |refine ko_sF (gff e1) ?_
     |refine plan_as (pick_t (gff e1)) ?_
     |refine bool_true (gff e1) ?_
     |refine ko_sT e2 ?_
     |refine ko_rF e2 ?_
     |refine plan_as (pick_f e2) ?_
     |refine bool_false e2 ?_
     |refine sym_drawn hS (by kernel_rfl) ?_); conv => whnf)
    exact ⟨i + 1, hi2, by omega, Nat.le_refl _, (by refine ⟨rfl, rfl, rfl, rfl, rfl, rfl, 0, rfl, ?_, ?_⟩ <;> repeat' (first | exact trivial | exact rfl | exact ⟨_, rfl, WkV.refl _⟩ | exact ⟨_, rfl, WkV.own _ _ _⟩ | exact Nat.zero_le _ | exact ⟨_, rfl, WkV.int hw⟩ | exact ⟨_, rfl, WkV.int (show IntKind.i64.wrap (Int.ofNat i + 1) = Int.ofNat (i + 1) from wrapN (m := i + 1) (by omega))⟩ | exact bdl_no lb | exact bdl_no lO | exact bdl_no lRR | exact Nat.le_of_ble_eq_true rfl | exact bdl_no (by assumption) | exact bdl_no (flat_no _) | exact bdl_no (ivs_no _) | exact bdl_no (svs_no _) | exact Nat.max_le.2 ⟨Nat.le_of_ble_eq_true rfl, bdl_no (ivs_no _)⟩ | exact Nat.max_le.2 ⟨Nat.le_of_ble_eq_true rfl, bdl_no (svs_no _)⟩ | apply And.intro))⟩
   ·refine bool_false (ltN_f hi2) ?_
    conv => whnf
    refine .inl ?_
    conv => whnf
    have ei : i = b.length := by omega
    have e3 : ((sumN i fun a => b.getD a 0) != 0) = false := by rw [ei, hs0]; rfl
    repeat ((first
     |refine ko_sT e3 ?_
     |refine ko_rF e3 ?_
     |refine plan_as (pick_f e3) ?_
     |refine bool_false e3 ?_
     |refine ko_rT (gff e3) ?_
     |refine ko_sF (gff e3) ?_
     |refine plan_as (pick_t (gff e3)) ?_
     |refine bool_true (gff e3) ?_
     |refine ko_sT k0 ?_
     |refine ko_rF k0 ?_
     |refine plan_as (pick_f k0) ?_
     |refine bool_false k0 ?_
     |refine ko_rT (gff k0) ?_
     |refine ko_sF (gff k0) ?_
     |refine plan_as (pick_t (gff k0)) ?_
     |refine bool_true (gff k0) ?_
     |refine sym_pure hC (pSt) ?_
     |refine sym_drawn hS (by kernel_rfl) ?_); conv => whnf)
    by_cases hst : stP b O
    ·have pO := pO1 hst
     have hlen := prop_len hk5.2 hR hst
     by_cases hgt : O.length > 0
     ·have e4 : decide ((O.length : Int) > 0) = true := decide_eq_true (by omega)
      repeat ((first
       |refine ko_sT k0 ?_
       |refine ko_rF k0 ?_
       |refine plan_as (pick_f k0) ?_
       |refine bool_false k0 ?_
       |refine ko_rT (gff k0) ?_
       |refine ko_sF (gff k0) ?_
       |refine plan_as (pick_t (gff k0)) ?_
       |refine bool_true (gff k0) ?_
       |refine ko_rT e4 ?_
       |refine ko_sF e4 ?_
       |refine plan_as (pick_t e4) ?_
       |refine bool_true e4 ?_
       |refine sym_pure hC (pO) ?_
       |refine sym_pure hC (known) ?_
       |refine sym_drawn hS (by kernel_rfl) ?_); conv => whnf)
      exact ⟨_, rfl, Wk.refl _⟩
     ·have e4 : decide ((O.length : Int) > 0) = false := decide_eq_false (by omega)
      have e5 : decide ((O.length : Int) < 0) = false := decide_eq_false (by omega)
      have hOR : O.length = 0 := by omega
      repeat ((first
       |refine ko_sT k0 ?_
       |refine ko_rF k0 ?_
       |refine plan_as (pick_f k0) ?_
       |refine bool_false k0 ?_
       |refine ko_rT (gff k0) ?_
       |refine ko_sF (gff k0) ?_
       |refine plan_as (pick_t (gff k0)) ?_
       |refine bool_true (gff k0) ?_
       |refine ko_sT e4 ?_
       |refine ko_rF e4 ?_
       |refine plan_as (pick_f e4) ?_
       |refine bool_false e4 ?_
       |refine ko_sT e5 ?_
       |refine ko_rF e5 ?_
       |refine plan_as (pick_f e5) ?_
       |refine bool_false e5 ?_
       |refine sym_pure hC (pO) ?_
       |refine sym_drawn hS (by kernel_rfl) ?_); conv => whnf)
      refine sym_unroll hE hS ?_
      conv => whnf
      have pF := pF1 ((List.length_eq_zero_iff.1 hOR).trans hR0.symm)
      repeat ((first
       |refine ko_sT k0 ?_
       |refine ko_rF k0 ?_
       |refine plan_as (pick_f k0) ?_
       |refine bool_false k0 ?_
       |refine sym_pure hC (pF) ?_
       |refine sym_pure hC (known) ?_
       |refine sym_drawn hS (by kernel_rfl) ?_); conv => whnf)
      exact ⟨_, rfl, Wk.refl _⟩
    ·have pO := pO0 hst
     have k1 : (!false) = true := rfl
     repeat ((first
      |refine ko_rT k1 ?_
      |refine ko_sF k1 ?_
      |refine plan_as (pick_t k1) ?_
      |refine bool_true k1 ?_
      |refine ko_sT (gft k1) ?_
      |refine ko_rF (gft k1) ?_
      |refine plan_as (pick_f (gft k1)) ?_
      |refine bool_false (gft k1) ?_
      |refine sym_pure hC (pO) ?_
      |refine sym_pure hC (known) ?_
      |refine sym_drawn hS (by kernel_rfl) ?_); conv => whnf)
     exact ⟨_, rfl, Wk.refl _⟩
theorem zero_LN (known : Pure prog 13 [] (.bool true)) {L : List LkI} (hL : L.length ≤ 10) {k p : Nat} (h : bkOk (Int.ofNat k) L) (hp : p ≤ L.length) (hR : BkS (blL L k) []) : Pure prog 4 [nv k, lkA L, .nils, nv p] (.bool true) := by
 obtain ⟨O, hO0⟩ : ∃ O : List LkI, O = [] := ⟨_, rfl⟩
 have hO : O.length ≤ 10 := by rw [hO0]; exact Nat.zero_le _
 obtain ⟨R, hR0⟩ : ∃ R : List LkI, R = [] := ⟨_, rfl⟩
 rw [← hR0] at hR
 have hR10 : R.length ≤ 10 := by rw [hR0]; exact Nat.zero_le _
 have hx : LL (lkA L) L := .inr rfl
 have hy : LL .nils O := .inl ⟨rfl, hO0⟩
 have lL := lks_no L
 have lO := lks_no O
 have hk5 : 2 ≤ k ∧ k ≤ 5 := ⟨Int.ofNat_le.1 h.1.1, Int.ofNat_le.1 h.1.2⟩
 have pK := rBook_pure hx (Int.ofNat k) hL
 rw [decide_eq_true h] at pK
 have hs0 := bk_sum h
 have hbd := bk_bd h
 have pB := sBalances_yes hx h
 rw [show (Int.ofNat k).toNat = k from rfl] at pB
 have pS := settle_run hx h rfl hs0 hbd hR
 have hbT := trn_bk h p
 have hbt := trn_bal L p k
 have lb := ivs_no (blL L k)
 have hbl := blL_len L k
 have pQ := same_pure (blL L k) (blL L k) (by rw [hbl]; omega) (b := true) ⟨fun _ => rfl, fun _ => rfl⟩
 have pE := sameE_self R (by omega)
 have pSt := rStl_pure (by rw [hbl]; exact hk5) hbd (x := enV R) (L := R) (enV_LL R) hR10 (B := true) ⟨fun _ => st_stP (by rw [hbl]; exact hk5.2) hbd hR.st, fun _ => rfl⟩
 have pO1 : stP (blL L k) O → _ := fun hst => rStl_pure (by rw [hbl]; exact hk5) hbd hy hO (B := true) ⟨fun _ => hst, fun _ => rfl⟩
 have pO0 : ¬ stP (blL L k) O → _ := fun hst => rStl_pure (by rw [hbl]; exact hk5) hbd hy hO (B := false) ⟨fun z => (nomatch z), fun z => absurd z hst⟩
 have pF1 : O = R → _ := fun e => sameE_x hy (by omega) R (c := true) ⟨fun _ => e, fun _ => rfl⟩
 have c0 : decide ((L.length : Int) > 10) = false := decide_eq_false (by omega)
 have c1 : decide ((O.length : Int) > 10) = false := decide_eq_false (by omega)
 have c2 : decide (Int.ofNat p < 0) = false := decide_eq_false (by show ¬ (p : Int) < 0; omega)
 have c3 : decide (Int.ofNat p > (L.length : Int)) = false := decide_eq_false (by show ¬ (p : Int) > _; omega)
 have k0 : (!true) = false := rfl
 have cR : decide ((R.length : Int) > 10) = false := decide_eq_false (by omega)
 have lRR := lks_no R
 have eR : enV R = .nils := if_pos hR0
 rw [eR] at pS pE pSt pF1
 have pTS : ∀ tv, LL tv (trn L p) → Pure prog 15 [nv k, tv] (.tup [.nils, iv 0]) := fun tv hT => by
  have := settle_run hT hbT hbt.symm hs0 hbd hR
  rwa [eR] at this
 have pTB : ∀ tv, LL tv (trn L p) → Pure prog 14 [nv k, tv] (.tup [nl (blL L k), iv 0]) := fun tv hT => by
  have := sBalances_yes hT hbT
  rwa [show (Int.ofNat k).toNat = k from rfl, hbt] at this
 generalize blL L k = b at *
 have cbl : ((b.length : Int) != Int.ofNat k) = false := by rw [hbl]; exact bne_self_eq_false _
 obtain rfl : k = b.length := hbl.symm
 have tf := tak_from L p
 have tt := takN_lks L p hp
 have tD : takeN ((L.length - p) * 3) (lks (L.drop p)) = some (lks (L.drop p)) := by
  rw [show L.length - p = (L.drop p).length by rw [List.length_drop]]; exact takeN_lks _
 have tT : takeN (p * 3) (lks (L.take p)) = some (lks (L.take p)) := by
  have := takeN_lks (L.take p)
  rwa [List.length_take, Nat.min_eq_left hp] at this
 refine pure_symX hE rfl (by repeat' (first | exact trivial | assumption | exact flat_no _ | exact (fun _ h => nomatch h) | apply And.intro)) (by repeat' (first | exact trivial | assumption | exact flat_no _ | exact (fun _ h => nomatch h) | apply And.intro)) fun S q pc hS hq hC hE => ?_
 conv => whnf
 refine sym_seq (E := E q pc) hS (sym_code (E := E q pc) hE hS ?_)
 conv => whnf
 refine sym_seq (E := E q pc) hS (sym_code (E := E q pc) hE hS ?_)
 conv => whnf
 repeat ((first
  |refine ko_sT c0 ?_
  |refine ko_rF c0 ?_
  |refine plan_as (pick_f c0) ?_
  |refine bool_false c0 ?_
  |refine ko_rT (gff c0) ?_
  |refine ko_sF (gff c0) ?_
  |refine plan_as (pick_t (gff c0)) ?_
  |refine bool_true (gff c0) ?_
  |refine ko_sT c1 ?_
  |refine ko_rF c1 ?_
  |refine plan_as (pick_f c1) ?_
  |refine bool_false c1 ?_
  |refine ko_rT (gff c1) ?_
  |refine ko_sF (gff c1) ?_
  |refine plan_as (pick_t (gff c1)) ?_
  |refine bool_true (gff c1) ?_
  |refine ko_sT k0 ?_
  |refine ko_rF k0 ?_
  |refine plan_as (pick_f k0) ?_
  |refine bool_false k0 ?_
  |refine ko_rT (gff k0) ?_
  |refine ko_sF (gff k0) ?_
  |refine plan_as (pick_t (gff k0)) ?_
  |refine bool_true (gff k0) ?_
  |refine ko_sT c2 ?_
  |refine ko_rF c2 ?_
  |refine plan_as (pick_f c2) ?_
  |refine bool_false c2 ?_
  |refine ko_rT (gff c2) ?_
  |refine ko_sF (gff c2) ?_
  |refine plan_as (pick_t (gff c2)) ?_
  |refine bool_true (gff c2) ?_
  |refine ko_sT c3 ?_
  |refine ko_rF c3 ?_
  |refine plan_as (pick_f c3) ?_
  |refine bool_false c3 ?_
  |refine sym_pure hC (pK) ?_
  |refine sym_drawn hS (by kernel_rfl) ?_); conv => whnf)
 refine sym_seqG (E := E q pc) hS (A := AV) [0, 1, 2] (fun tv => [(9, tv)]) (fun _ => []) (fun _ => []) (fun tv => LL tv (trn L p)) (Nat.le_of_ble_eq_true rfl) (sym_code (E := E q pc) hE hS ?_) ?_
 ·conv => whnf
  by_cases hpl : p < L.length
  ·obtain ⟨d, hd⟩ : ∃ d, L.length - p = d + 1 := ⟨L.length - p - 1, by omega⟩
   refine plan_as (slFrom (e := 38) (by kernel_rfl) rfl rfl hp (by exact tf)) ?_
   conv => whnf
   refine bool_true (decide_eq_true (show p * 3 ≤ (lks L).length by rw [lks_len]; omega)) ?_
   conv => whnf
   refine plan_as (pSrc_eq (e := 38) (ys := lks (L.drop p)) (m := L.length - p) (own := .no) (l := lks (L.drop p)) (by kernel_rfl) rfl (by exact tD)) ?_
   rw [hd]
   conv => whnf
   refine bool_true (allCells_lks (L.drop p)) ?_
   conv => whnf
   refine bool_true (decide_eq_true (show (d + 1) * 24 ≤ 140737488355328 by omega)) ?_
   conv => whnf
   refine bool_true (decide_eq_true (show d + 1 ≤ 9223372036854775807 by omega)) ?_
   conv => whnf
   refine plan_as (slTo (e := 38) (by kernel_rfl) rfl rfl hp (by exact tt)) ?_
   conv => whnf
   refine plan_as (pSrc_eq (e := 38) (ys := lks (L.take p)) (m := p) (own := .no) (l := lks (L.take p)) (by kernel_rfl) rfl (by exact tT)) ?_
   by_cases hp0 : p = 0
   ·rw [hp0]
    conv => whnf
    refine sym_drawn hS (by kernel_rfl) ?_
    conv => whnf
    have eT : AV.lst (lks (L.drop 0)) (d + 1) .no = lkA (trn L 0) := by
     rw [hp0] at hd
     unfold trn lkA
     rw [List.drop_zero, List.take_zero, List.append_nil, ← hd, Nat.sub_zero]
    exact ⟨lkA (trn L 0), .inr rfl, (by refine ⟨rfl, rfl, rfl, rfl, rfl, rfl, 0, rfl, ?_, ?_⟩ <;> repeat' (first | exact trivial | exact rfl | exact ⟨_, rfl, WkV.refl _⟩ | exact ⟨_, rfl, WkV.own _ _ _⟩ | exact Nat.zero_le _ | exact ⟨_, rfl, WkV.trans (WkV.own _ _ _) (WkV.eq eT)⟩ | exact bz (lkA_no _) | exact bdl_no lL | exact bdl_no lO | exact Nat.le_of_ble_eq_true rfl | exact bdl_no (by assumption) | exact bdl_no (flat_no _) | exact bdl_no (ivs_no _) | exact bdl_no (svs_no _) | exact Nat.max_le.2 ⟨Nat.le_of_ble_eq_true rfl, bdl_no (ivs_no _)⟩ | exact Nat.max_le.2 ⟨Nat.le_of_ble_eq_true rfl, bdl_no (svs_no _)⟩ | apply And.intro))⟩
   ·obtain ⟨r, hpr⟩ : ∃ r, p = r + 1 := ⟨p - 1, by omega⟩
    rw [hpr]
    conv => whnf
    have lenT : lenIs (lks (L.drop p)) ((d + 1) * 3) = true := by
     have := lenIs_en (L.drop p)
     rwa [List.length_drop, hd] at this
    rw [hpr] at lenT
    refine bool_true (allCells_lks (L.take (r + 1))) ?_
    conv => whnf
    refine bool_true (decide_eq_true (show (d + 1 + (r + 1)) * 24 ≤ 140737488355328 by omega)) ?_
    conv => whnf
    refine bool_true (decide_eq_true (show d + 1 + (r + 1) ≤ 9223372036854775807 by omega)) ?_
    conv => whnf
    refine bool_true (lenT) ?_
    conv => whnf
    refine bool_true (decide_eq_true rfl) ?_
    conv => whnf
    refine sym_drawn hS (by kernel_rfl) ?_
    conv => whnf
    have eT : AV.lst (lks (L.drop (r + 1)) ++ lks (L.take (r + 1))) (d + 1 + (r + 1)) .no = lkA (trn L (r + 1)) := by
     rw [← lks_app, show d + 1 + (r + 1) = (trn L (r + 1)).length by rw [trn_len]; omega]; rfl
    exact ⟨lkA (trn L (r + 1)), .inr rfl, (by refine ⟨rfl, rfl, rfl, rfl, rfl, rfl, 0, rfl, ?_, ?_⟩ <;> repeat' (first | exact trivial | exact rfl | exact ⟨_, rfl, WkV.refl _⟩ | exact ⟨_, rfl, WkV.own _ _ _⟩ | exact Nat.zero_le _ | exact ⟨_, rfl, WkV.trans (WkV.own _ _ _) (WkV.eq eT)⟩ | exact bz (lkA_no _) | exact bdl_no lL | exact bdl_no lO | exact Nat.le_of_ble_eq_true rfl | exact bdl_no (by assumption) | exact bdl_no (flat_no _) | exact bdl_no (ivs_no _) | exact bdl_no (svs_no _) | exact Nat.max_le.2 ⟨Nat.le_of_ble_eq_true rfl, bdl_no (ivs_no _)⟩ | exact Nat.max_le.2 ⟨Nat.le_of_ble_eq_true rfl, bdl_no (svs_no _)⟩ | apply And.intro))⟩
  ·have hd : L.length - p = 0 := by omega
   refine plan_as (slFrom (e := 38) (by kernel_rfl) rfl rfl hp (by exact tf)) ?_
   conv => whnf
   refine bool_true (decide_eq_true (show p * 3 ≤ (lks L).length by rw [lks_len]; omega)) ?_
   conv => whnf
   refine plan_as (pSrc_eq (e := 38) (ys := lks (L.drop p)) (m := L.length - p) (own := .no) (l := lks (L.drop p)) (by kernel_rfl) rfl (by exact tD)) ?_
   rw [hd]
   conv => whnf
   refine bool_true (allCells_lks (L.drop p)) ?_
   conv => whnf
   refine plan_as (slTo (e := 38) (by kernel_rfl) rfl rfl hp (by exact tt)) ?_
   conv => whnf
   refine plan_as (pSrc_eq (e := 38) (ys := lks (L.take p)) (m := p) (own := .no) (l := lks (L.take p)) (by kernel_rfl) rfl (by exact tT)) ?_
   by_cases hp0 : p = 0
   ·rw [hp0]
    conv => whnf
    refine sym_drawn hS (by kernel_rfl) ?_
    conv => whnf
    have e0 : trn L 0 = [] := List.length_eq_zero_iff.1 (by rw [trn_len]; omega)
    exact ⟨.nils, .inl ⟨rfl, e0⟩, (by refine ⟨rfl, rfl, rfl, rfl, rfl, rfl, 0, rfl, ?_, ?_⟩ <;> repeat' (first | exact trivial | exact rfl | exact ⟨_, rfl, WkV.refl _⟩ | exact ⟨_, rfl, WkV.own _ _ _⟩ | exact Nat.zero_le _ | exact bdl_no lL | exact bdl_no lO | exact Nat.le_of_ble_eq_true rfl | exact bdl_no (by assumption) | exact bdl_no (flat_no _) | exact bdl_no (ivs_no _) | exact bdl_no (svs_no _) | exact Nat.max_le.2 ⟨Nat.le_of_ble_eq_true rfl, bdl_no (ivs_no _)⟩ | exact Nat.max_le.2 ⟨Nat.le_of_ble_eq_true rfl, bdl_no (svs_no _)⟩ | apply And.intro))⟩
   ·obtain ⟨r, hpr⟩ : ∃ r, p = r + 1 := ⟨p - 1, by omega⟩
    rw [hpr]
    conv => whnf
    refine bool_true (allCells_lks (L.take (r + 1))) ?_
    conv => whnf
    refine bool_true (decide_eq_true (show (r + 1) * 24 ≤ 140737488355328 by omega)) ?_
    conv => whnf
    refine bool_true (decide_eq_true (show r + 1 ≤ 9223372036854775807 by omega)) ?_
    conv => whnf
    refine sym_drawn hS (by kernel_rfl) ?_
    conv => whnf
    have eT : AV.lst (lks (L.take (r + 1))) (r + 1) .no = lkA (trn L (r + 1)) := by
     unfold trn lkA
     rw [List.drop_eq_nil_of_le (by omega), List.nil_append, List.length_take, Nat.min_eq_left (by omega)]
    exact ⟨lkA (trn L (r + 1)), .inr rfl, (by refine ⟨rfl, rfl, rfl, rfl, rfl, rfl, 0, rfl, ?_, ?_⟩ <;> repeat' (first | exact trivial | exact rfl | exact ⟨_, rfl, WkV.refl _⟩ | exact ⟨_, rfl, WkV.own _ _ _⟩ | exact Nat.zero_le _ | exact ⟨_, rfl, WkV.trans (WkV.own _ _ _) (WkV.eq eT)⟩ | exact bz (lkA_no _) | exact bdl_no lL | exact bdl_no lO | exact Nat.le_of_ble_eq_true rfl | exact bdl_no (by assumption) | exact bdl_no (flat_no _) | exact bdl_no (ivs_no _) | exact bdl_no (svs_no _) | exact Nat.max_le.2 ⟨Nat.le_of_ble_eq_true rfl, bdl_no (ivs_no _)⟩ | exact Nat.max_le.2 ⟨Nat.le_of_ble_eq_true rfl, bdl_no (svs_no _)⟩ | apply And.intro))⟩
 ·intro tv hT Q hQ
  obtain rfl : Q = 0 := hQ
  have pTB := pTB tv hT
  have pTS := pTS tv hT
  rcases hT with ⟨rfl, hT⟩ | rfl
  all_goals
   refine sym_code (E := E q pc) hE hS ?_
   conv => whnf
   repeat ((first
    |refine ko_sT cbl ?_
    |refine ko_rF cbl ?_
    |refine plan_as (pick_f cbl) ?_
    |refine bool_false cbl ?_
    |refine ko_sT cR ?_
    |refine ko_rF cR ?_
    |refine plan_as (pick_f cR) ?_
    |refine bool_false cR ?_
    |refine sym_pure hC (pB) ?_
    |refine sym_pure hC (pS) ?_
    |refine sym_pure hC (pTB) ?_
    |refine sym_pure hC (pTS) ?_
    |refine sym_pure hC (pQ) ?_
    |refine sym_pure hC (pE) ?_
    |refine sym_drawn hS (by kernel_rfl) ?_); conv => whnf)
   refine sym_loopG hE hS (A := Nat) [2, 10, 12] (fun i => [(18, iv (sumN i fun a => b.getD a 0)), (19, nv i)]) (fun _ => []) (fun _ => []) (fun i => i ≤ b.length) (fun i => b.length - i) 0 (Nat.le_of_ble_eq_true rfl) rfl (by refine ⟨rfl, rfl, rfl, rfl, rfl, rfl, 0, rfl, ?_, ?_⟩ <;> repeat' (first | exact trivial | exact rfl | exact ⟨_, rfl, WkV.refl _⟩ | exact ⟨_, rfl, WkV.own _ _ _⟩ | exact Nat.zero_le _ | exact bdl_no lb | exact bdl_no lO | exact bdl_no lRR | exact Nat.le_of_ble_eq_true rfl | exact bdl_no (by assumption) | exact bdl_no (flat_no _) | exact bdl_no (ivs_no _) | exact bdl_no (svs_no _) | exact Nat.max_le.2 ⟨Nat.le_of_ble_eq_true rfl, bdl_no (ivs_no _)⟩ | exact Nat.max_le.2 ⟨Nat.le_of_ble_eq_true rfl, bdl_no (svs_no _)⟩ | apply And.intro)) (Nat.zero_le _) ?_
   intro i hi Q hQ
   obtain rfl : Q = 0 := hQ
   conv => whnf
   by_cases hi2 : i < b.length
   ·have gi := nth_ivs1 (l := b) (i := i) hi2
    have hbi := hbd i hi2
    have e1 : decide (b.getD i 0 < -8000000) = false := decide_eq_false (by omega)
    have e2 : decide (b.getD i 0 > 8000000) = false := decide_eq_false (by omega)
    have hsm := sum_bd hbd (i := i) hi
    have hw : IntKind.i64.wrap ((sumN i fun a => b.getD a 0) + b.getD i 0) = sumN (i + 1) fun a => b.getD a 0 := wrapI (by omega) (by omega)
    repeat ((first
     |refine plan_as (nthP gi) ?_
     |refine ko_rT (ltN_t hi2) ?_
     |refine ko_sF (ltN_t hi2) ?_
     |refine plan_as (pick_t (ltN_t hi2)) ?_
     |refine bool_true (ltN_t hi2) ?_
     |refine ko_sT (ltN_t hi2) ?_
     |refine ko_rF (ltN_t hi2) ?_
     |refine plan_as (pick_f (ltN_t hi2)) ?_
     |refine bool_false (ltN_t hi2) ?_
     |refine ko_rT (inR_t hi2) ?_
     |refine ko_sF (inR_t hi2) ?_
     |refine plan_as (pick_t (inR_t hi2)) ?_
     |refine bool_true (inR_t hi2) ?_
     |refine ko_sT e1 ?_
     |refine ko_rF e1 ?_
     |refine plan_as (pick_f e1) ?_
     |refine bool_false e1 ?_
     |refine ko_rT (gff e1) ?_
     |refine ko_sF (gff e1) ?_
     |refine plan_as (pick_t (gff e1)) ?_
     |refine bool_true (gff e1) ?_
     |refine ko_sT e2 ?_
     |refine ko_rF e2 ?_
     |refine plan_as (pick_f e2) ?_
     |refine bool_false e2 ?_
     |refine sym_drawn hS (by kernel_rfl) ?_); conv => whnf)
    exact ⟨i + 1, hi2, by omega, Nat.le_refl _, (by refine ⟨rfl, rfl, rfl, rfl, rfl, rfl, 0, rfl, ?_, ?_⟩ <;> repeat' (first | exact trivial | exact rfl | exact ⟨_, rfl, WkV.refl _⟩ | exact ⟨_, rfl, WkV.own _ _ _⟩ | exact Nat.zero_le _ | exact ⟨_, rfl, WkV.int hw⟩ | exact ⟨_, rfl, WkV.int (show IntKind.i64.wrap (Int.ofNat i + 1) = Int.ofNat (i + 1) from wrapN (m := i + 1) (by omega))⟩ | exact bdl_no lb | exact bdl_no lO | exact bdl_no lRR | exact Nat.le_of_ble_eq_true rfl | exact bdl_no (by assumption) | exact bdl_no (flat_no _) | exact bdl_no (ivs_no _) | exact bdl_no (svs_no _) | exact Nat.max_le.2 ⟨Nat.le_of_ble_eq_true rfl, bdl_no (ivs_no _)⟩ | exact Nat.max_le.2 ⟨Nat.le_of_ble_eq_true rfl, bdl_no (svs_no _)⟩ | apply And.intro))⟩
   ·refine bool_false (ltN_f hi2) ?_
    conv => whnf
    refine .inl ?_
    conv => whnf
    have ei : i = b.length := by omega
    have e3 : ((sumN i fun a => b.getD a 0) != 0) = false := by rw [ei, hs0]; rfl
    repeat ((first
     |refine ko_sT e3 ?_
     |refine ko_rF e3 ?_
     |refine plan_as (pick_f e3) ?_
     |refine bool_false e3 ?_
     |refine ko_rT (gff e3) ?_
     |refine ko_sF (gff e3) ?_
     |refine plan_as (pick_t (gff e3)) ?_
     |refine bool_true (gff e3) ?_
     |refine ko_sT k0 ?_
     |refine ko_rF k0 ?_
     |refine plan_as (pick_f k0) ?_
     |refine bool_false k0 ?_
     |refine ko_rT (gff k0) ?_
     |refine ko_sF (gff k0) ?_
     |refine plan_as (pick_t (gff k0)) ?_
     |refine bool_true (gff k0) ?_
     |refine sym_pure hC (pSt) ?_
     |refine sym_drawn hS (by kernel_rfl) ?_); conv => whnf)
    have pF := pF1 (hO0.trans hR0.symm)
    refine sym_unroll hE hS ?_
    conv => whnf
    repeat ((first
     |refine ko_sT k0 ?_
     |refine ko_rF k0 ?_
     |refine plan_as (pick_f k0) ?_
     |refine bool_false k0 ?_
     |refine sym_pure hC (pF) ?_
     |refine sym_pure hC (known) ?_
     |refine sym_drawn hS (by kernel_rfl) ?_); conv => whnf)
    exact ⟨_, rfl, Wk.refl _⟩
end
end Go.Abs.Seat
