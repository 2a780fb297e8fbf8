/-
  Books of accounts: balances, as the document says.
-/
import Derived.Test.YtlmadgdonalncaaGreatDoorB64
/-! Books of accounts: balances, as the document says. -/
namespace Go.Abs.Seat
noncomputable section
open Go Go.Abs Go.Proofs.Tryz
set_option maxRecDepth 100000
set_option maxHeartbeats 40000000
attribute [local irreducible] IntKind.wrap pEq

theorem fl_bd {a : Int} {e : LkI} (h : 0 ≤ e.2.2 ∧ e.2.2 ≤ 1000000) : -1000000 ≤ fl a e ∧ fl a e ≤ 1000000 := by
 unfold fl
 split <;> split <;> omega
theorem sg_bd : ∀ {L : List LkI} {a : Int}, (∀ j, j < L.length → 0 ≤ (gL L j).2.2 ∧ (gL L j).2.2 ≤ 1000000) → -((L.length : Int) * 1000000) ≤ sg L a ∧ sg L a ≤ (L.length : Int) * 1000000
 | [], _, _ => ⟨by simp [sg], by simp [sg]⟩
 |e :: r, a, h => by
  have h0 := fl_bd (a := a) (h 0 (Nat.succ_pos _))
  have := sg_bd (L := r) (a := a) fun j hj => h (j + 1) (Nat.succ_lt_succ hj)
  rw [gL_zero] at h0
  rw [sg, List.length_cons, Int.natCast_add]
  omega
theorem sg_take (L : List LkI) {i : Nat} (h : i < L.length) (a : Int) : sg (L.take (i + 1)) a = sg (L.take i) a + fl a (gL L i) := by
 rw [take_gL L h, sg_app, sg, sg, Int.add_zero]
theorem gL_takeE (L : List LkI) {i j : Nat} (h : j < i) : gL (L.take i) j = gL L j := by
 simp [gL, List.getD, h]
theorem blL_len (L : List LkI) (k : Nat) : (blL L k).length = k := by unfold blL; rw [List.length_map, List.length_range]
theorem blL_get (L : List LkI) {k a : Nat} (h : a < k) : (blL L k).getD a 0 = sg L (Int.ofNat a) := by
 rw [← blI_sg]
 simp [blL, List.getD, h]
theorem list_ext {l r : List Int} (h : l.length = r.length) (k : ∀ a, a < l.length → l.getD a 0 = r.getD a 0) : l = r := by
 refine List.ext_getElem h fun i h1 h2 => ?_
 have := k i h1
 simpa [List.getD, h1, h2] using this
theorem sum_fl {n : Nat} {e : LkI} (h : 0 ≤ e.1 ∧ e.1 < (n : Int)) (h2 : 0 ≤ e.2.1 ∧ e.2.1 < (n : Int)) : sumN n (fun a => fl (Int.ofNat a) e) = 0 := by
 have e1 : ∀ a : Nat, fl (Int.ofNat a) e = (if a = e.2.1.toNat then e.2.2 else 0) + (if a = e.1.toNat then - e.2.2 else 0) := fun a => by
  unfold fl
  have d1 : (e.2.1 = Int.ofNat a) = (a = e.2.1.toNat) := propext ⟨fun z => by rw [z]; rfl, fun z => by rw [z]; exact (Int.toNat_of_nonneg h2.1).symm⟩
  have d2 : (e.1 = Int.ofNat a) = (a = e.1.toNat) := propext ⟨fun z => by rw [z]; rfl, fun z => by rw [z]; exact (Int.toNat_of_nonneg h.1).symm⟩
  simp only [d1, d2]
  split <;> split <;> omega
 rw [sumN_eq (g := fun a => (if a = e.2.1.toNat then e.2.2 else 0) + (if a = e.1.toNat then - e.2.2 else 0)) fun a _ => e1 a, sumN_add, sumN_at, sumN_at, if_pos (by omega), if_pos (by omega)]
 omega
theorem sum_sg {n : Nat} : ∀ {L : List LkI}, (∀ j, j < L.length → (0 ≤ (gL L j).1 ∧ (gL L j).1 < (n : Int)) ∧ (0 ≤ (gL L j).2.1 ∧ (gL L j).2.1 < (n : Int))) → sumN n (fun a => sg L (Int.ofNat a)) = 0
 | [], _ => sumN_z n
 |e :: r, h => by
  have h0 := h 0 (Nat.succ_pos _)
  rw [gL_zero] at h0
  have := sum_sg (L := r) fun j hj => h (j + 1) (Nat.succ_lt_succ hj)
  have e1 : sumN n (fun a => sg (e :: r) (Int.ofNat a)) = sumN n (fun a => fl (Int.ofNat a) e + sg r (Int.ofNat a)) := sumN_eq fun a _ => rfl
  rw [e1, sumN_add, this, sum_fl h0.1 h0.2]; rfl
theorem bk_sum {k : Nat} {L : List LkI} (h : bkOk (Int.ofNat k) L) : sumN (blL L k).length (fun a => (blL L k).getD a 0) = 0 := by
 rw [blL_len, sumN_eq (g := fun a => sg L (Int.ofNat a)) fun a ha => blL_get L ha]
 exact sum_sg fun j hj => ⟨(h.2.2 j hj).1, (h.2.2 j hj).2.1⟩
theorem bk_bd {k : Nat} {L : List LkI} (h : bkOk (Int.ofNat k) L) : ∀ a, a < (blL L k).length → - 8000000 ≤ (blL L k).getD a 0 ∧ (blL L k).getD a 0 ≤ 8000000 := fun a ha => by
 rw [blL_len] at ha
 rw [blL_get L ha]
 have := sg_bd (L := L) (a := Int.ofNat a) fun j hj => (h.2.2 j hj).2.2.2
 have := h.2.1
 omega
theorem bk_best {k : Nat} {L : List LkI} (h : bkOk (Int.ofNat k) L) : ∃ R, BkS (blL L k) R := by
 have hk : (blL L k).length ≤ 5 := by rw [blL_len]; exact Int.ofNat_le.1 h.1.2
 obtain ⟨x, r, _, hb⟩ := bst_all hk (bk_sum h) rfl
 exact ⟨_, hb⟩
structure BInv (L : List LkI) (k i : Nat) (lf : List Int) (t : Tr AV) : Prop where
 len : lf.length = k
 c : ∀ j, t.get j = (ivs lf)[j]?
 v : ∀ a, a < k → lf.getD a 0 = sg (L.take i) (Int.ofNat a)
theorem BInv.get {L : List LkI} {k i : Nat} {lf : List Int} {t : Tr AV} (h : BInv L k i lf t) {a : Nat} (ha : a < k) : t.get (0 + a * 1) = some (iv (lf.getD a 0)) := by
 rw [h.c, show 0 + a * 1 = a by omega, ivs_getD (by rw [h.len]; exact ha)]
theorem BInv.bd {L : List LkI} {k i : Nat} {lf : List Int} {t : Tr AV} (h : BInv L k i lf t) (hL : bkOk (Int.ofNat k) L) {a : Nat} (ha : a < k) : -8000000 ≤ lf.getD a 0 ∧ lf.getD a 0 ≤ 8000000 := by
 rw [h.v a ha]
 have h8 := hL.2.1
 have := sg_bd (L := L.take i) (a := Int.ofNat a) fun j hj => by
  rw [List.length_take] at hj
  rw [gL_takeE L (by omega)]
  exact (hL.2.2 j (by omega)).2.2.2
 have hl : (L.take i).length ≤ 8 := by rw [List.length_take]; omega
 omega
theorem BInv.step {L : List LkI} {k i : Nat} {lf : List Int} {t : Tr AV} (h : BInv L k i lf t) (hL : bkOk (Int.ofNat k) L) (hi : i < L.length) {f s : Nat} (hf : (gL L i).1 = Int.ofNat f) (hs : (gL L i).2.1 = Int.ofNat s) (hfk : f < k) (hsk : s < k) (hfs : f ≠ s) {t1 t2 : Tr AV} (e1 : t1 = tset (pathOf (0 + f * 1)) t (iv (IntKind.i64.wrap (lf.getD f 0 - (gL L i).2.2)))) (e2 : t2 = tset (pathOf (0 + s * 1)) t1 (iv (IntKind.i64.wrap (lf.getD s 0 + (gL L i).2.2)))) :
  t1.get (0 + s * 1) = some (iv (lf.getD s 0)) ∧ BInv L k (i + 1) ((lf.set f (lf.getD f 0 - (gL L i).2.2)).set s (lf.getD s 0 + (gL L i).2.2)) t2 := by
 have hc := (hL.2.2 i hi).2.2.2
 have b1 := h.bd hL hfk
 have b2 := h.bd hL hsk
 rw [show IntKind.i64.wrap (lf.getD f 0 - (gL L i).2.2) = lf.getD f 0 - (gL L i).2.2 from wrapI (by omega) (by omega)] at e1
 rw [show IntKind.i64.wrap (lf.getD s 0 + (gL L i).2.2) = lf.getD s 0 + (gL L i).2.2 from wrapI (by omega) (by omega)] at e2
 have hfl : f < lf.length := by rw [h.len]; exact hfk
 have g1 : ∀ j, t1.get j = (ivs (lf.set f (lf.getD f 0 - (gL L i).2.2)))[j]? := fun j => by
  rw [e1, tset_at (h.get hfk), ivs_set _ hfl, h.c, show 0 + f * 1 = f by omega]
 have hsl : s < (lf.set f (lf.getD f 0 - (gL L i).2.2)).length := by rw [List.length_set, h.len]; exact hsk
 have gs' : (lf.set f (lf.getD f 0 - (gL L i).2.2)).getD s 0 = lf.getD s 0 := by rw [getD_set _ _ hfl, if_neg (Ne.symm hfs)]
 have r1 : t1.get (0 + s * 1) = some (iv (lf.getD s 0)) := by rw [g1, show 0 + s * 1 = s by omega, ivs_getD hsl, gs']
 refine ⟨r1, by rw [List.length_set, List.length_set, h.len], fun j => ?_, fun a ha => ?_⟩
 ·rw [e2, tset_at r1, ivs_set _ hsl, g1, show 0 + s * 1 = s by omega]
 ·have hv := h.v a ha
  rw [getD_set _ _ hsl, getD_set _ _ hfl, sg_take L hi, ← hv]
  unfold fl
  rw [hf, hs]
  have d1 : (Int.ofNat s = Int.ofNat a) = (a = s) := propext ⟨fun z => (Int.ofNat.inj z).symm, fun z => by rw [z]⟩
  have d2 : (Int.ofNat f = Int.ofNat a) = (a = f) := propext ⟨fun z => (Int.ofNat.inj z).symm, fun z => by rw [z]⟩
  simp only [d1, d2]
  by_cases q1 : a = s
  ·subst q1
   rw [if_pos rfl, if_pos rfl, if_neg (Ne.symm hfs)]; omega
  ·rw [if_neg q1, if_neg q1]
   by_cases q2 : a = f
   ·subst q2
    rw [if_pos rfl, if_pos rfl]; omega
   ·rw [if_neg q2, if_neg q2]; omega
--STUB--
theorem rBal_L {k : Nat} {L : List LkI} (h : bkOk (Int.ofNat k) L) : Pure prog 17 [nv k, lkA L] (nl (blL L k)) := by
 have lL := lks_no L
 have ln := ivs_no (blL L k)
 have hk5 : 2 ≤ k ∧ k ≤ 5 := ⟨Int.ofNat_le.1 h.1.1, Int.ofNat_le.1 h.1.2⟩
 have h8 := h.2.1
 obtain ⟨m, hm⟩ : ∃ m, k = m + 1 := ⟨k - 1, by omega⟩
 refine pure_symF (hEM (fun _ _ => false)) rfl (by repeat' (first | exact trivial | assumption | exact flat_no _ | exact (fun _ h => nomatch h) | apply And.intro)) (by repeat' (first | exact trivial | assumption | exact flat_no _ | exact (fun _ h => nomatch h) | apply And.intro)) fun S q pc hS hq hC hE => ?_
 conv => whnf
 refine bool_true (decide_eq_true (Int.le_refl _)) ?_
 conv => whnf
 refine bool_true (decide_eq_true (show Int.ofNat k ≤ 9223372036854775807 by show (k : Int) ≤ _; omega)) ?_
 conv => whnf
 refine bool_true (decide_eq_true (show 8 * (Int.ofNat k).toNat ≤ 2 * 140737488355328 by show 8 * k ≤ _; omega)) ?_
 conv => whnf
 refine nat_sym (show (Int.ofNat k).toNat = m + 1 from hm) ?_
 refine fcH0_mk ?_
 refine rep_sym (show m + 1 + 1 < 2 ^ 64 by omega) ?_
 intro t ht
 conv => whnf
 have hi0 : BInv L k 0 (List.replicate k 0) t := by
  refine ⟨List.length_replicate, fun j => ?_, fun a ha => ?_⟩
  ·rw [ht, ivs_at]
   by_cases e : j < k
   ·rw [if_pos (by omega)]; simp [e]; rfl
   ·rw [if_neg (by omega)]; simp [e]
  ·rw [List.take_zero, sg]
   simp [List.getD, ha]
 refine sym_loopG hE hS (A := Nat × List Int × Tr AV) [0, 1, 5] (fun (i, _, _) => [(6, nv i)]) (fun (_, _, t) => [(0, .cells t (Nat.succ m) 3)]) (fun _ => []) (fun (i, lf, t) => i ≤ L.length ∧ BInv L k i lf t) (fun (i, _, _) => L.length - i) (0, List.replicate k 0, t) (Nat.le_of_ble_eq_true rfl) rfl (by refine ⟨rfl, rfl, rfl, rfl, rfl, rfl, 1, rfl, ?_, ?_⟩ <;> repeat' (first | exact trivial | exact rfl | exact ⟨_, rfl, WkV.refl _⟩ | exact ⟨_, rfl, WkV.own _ _ _⟩ | exact Nat.zero_le _ | exact bdl_no lL | exact bdT_ivs hi0.c | exact Nat.le_of_ble_eq_true rfl | exact bdl_no (by assumption) | exact bdl_no (flat_no _) | exact bdl_no (ivs_no _) | exact bdl_no (svs_no _) | exact Nat.max_le.2 ⟨Nat.le_of_ble_eq_true rfl, bdl_no (ivs_no _)⟩ | exact Nat.max_le.2 ⟨Nat.le_of_ble_eq_true rfl, bdl_no (svs_no _)⟩ | apply And.intro)) ⟨Nat.zero_le _, hi0⟩ ?_
 rintro ⟨i, lf, t⟩ ⟨hi, hI⟩ Q hQ
 obtain rfl : Q = 1 := hQ
 conv => whnf
 by_cases hi2 : i < L.length
 ·have hen := h.2.2 i hi2
  have hf := (Int.toNat_of_nonneg hen.1.1).symm
  have hs := (Int.toNat_of_nonneg hen.2.1.1).symm
  have hfk : (gL L i).1.toNat < k := by have := hen.1; have e : Int.ofNat k = (k : Int) := rfl; omega
  have hsk : (gL L i).2.1.toNat < k := by have := hen.2.1; have e : Int.ofNat k = (k : Int) := rfl; omega
  have hfs : (gL L i).1.toNat ≠ (gL L i).2.1.toNat := fun z => hen.2.2.1 (by omega)
  have P := hI.step h hi2 hf hs hfk hsk hfs rfl rfl
  have gf := hI.get hfk
  have g0 := nth_lks L i hi2
  have g1 := nth_lk1 L i hi2
  have g2 := nth_lk2 L i hi2
  have iF : inR (gL L i).1 k = true := by rw [hf]; exact inR_t hfk
  have iS : inR (gL L i).2.1 k = true := by rw [hs]; exact inR_t hsk
  have dF : decide (0 + (gL L i).1.toNat * 1 < Nat.succ m) = true := decide_eq_true (by omega)
  have dS : decide (0 + (gL L i).2.1.toNat * 1 < Nat.succ m) = true := decide_eq_true (by omega)
  have bF : Nat.ble (0 + (gL L i).1.toNat * 1 + 1) (Nat.succ m) = true := Nat.ble_eq_true_of_le (by omega)
  have bS : Nat.ble (0 + (gL L i).2.1.toNat * 1 + 1) (Nat.succ m) = true := Nat.ble_eq_true_of_le (by omega)
  refine bool_true (ltN_t hi2) ?_
  conv => whnf
  repeat ((first
   |refine plan_as (nthP g0) ?_
   |refine plan_as (nthP g1) ?_
   |refine plan_as (nthP g2) ?_
   |refine plan_as (getP_as gf) ?_
   |refine ko_rT (inR_t hi2) ?_
   |refine ko_sF (inR_t hi2) ?_
   |refine plan_as (pick_t (inR_t hi2)) ?_
   |refine bool_true (inR_t hi2) ?_
   |refine ko_rT iF ?_
   |refine ko_sF iF ?_
   |refine plan_as (pick_t iF) ?_
   |refine bool_true iF ?_
   |refine ko_rT iS ?_
   |refine ko_sF iS ?_
   |refine plan_as (pick_t iS) ?_
   |refine bool_true iS ?_
   |refine ko_rT dF ?_
   |refine ko_sF dF ?_
   |refine plan_as (pick_t dF) ?_
   |refine bool_true dF ?_
   |refine ko_rT dS ?_
   |refine ko_sF dS ?_
   |refine plan_as (pick_t dS) ?_
   |refine bool_true dS ?_
   |refine ko_rT bF ?_
   |refine ko_sF bF ?_
   |refine plan_as (pick_t bF) ?_
   |refine bool_true bF ?_
   |refine sym_drawn hS (by kernel_rfl) ?_); conv => whnf)
  refine set_sym gf ?_
  conv => whnf
  repeat ((first
   |refine plan_as (nthP g0) ?_
   |refine plan_as (nthP g1) ?_
   |refine plan_as (nthP g2) ?_
   |refine plan_as (getP_as P.1) ?_
   |refine ko_rT (inR_t hi2) ?_
   |refine ko_sF (inR_t hi2) ?_
   |refine plan_as (pick_t (inR_t hi2)) ?_
   |refine bool_true (inR_t hi2) ?_
   |refine ko_rT iF ?_
   |refine ko_sF iF ?_
   |refine plan_as (pick_t iF) ?_
   |refine bool_true iF ?_
   |refine ko_rT iS ?_
   |refine ko_sF iS ?_
   |refine plan_as (pick_t iS) ?_
   |refine bool_true iS ?_
   |refine ko_rT dF ?_
   |refine ko_sF dF ?_
   |refine plan_as (pick_t dF) ?_
   |refine bool_true dF ?_
   |refine ko_rT dS ?_
   |refine ko_sF dS ?_
   |refine plan_as (pick_t dS) ?_
   |refine bool_true dS ?_
   |refine ko_rT bS ?_
   |refine ko_sF bS ?_
   |refine plan_as (pick_t bS) ?_
   |refine bool_true bS ?_
   |refine sym_drawn hS (by kernel_rfl) ?_); conv => whnf)
  refine set_sym P.1 ?_
  conv => whnf
  refine sym_drawn hS (by kernel_rfl) ?_
  conv => whnf
  exact ⟨(i + 1, _, _), ⟨hi2, P.2⟩, by show L.length - (i + 1) < L.length - i; omega, Nat.le_refl _, (by refine ⟨rfl, rfl, rfl, rfl, rfl, rfl, 1, rfl, ?_, ?_⟩ <;> repeat' (first | exact trivial | exact rfl | exact ⟨_, rfl, WkV.refl _⟩ | exact ⟨_, rfl, WkV.own _ _ _⟩ | exact Nat.zero_le _ | exact ⟨_, rfl, WkV.int (show IntKind.i64.wrap (Int.ofNat i + 1) = Int.ofNat (i + 1) from wrapN (m := i + 1) (by omega))⟩ | exact bdl_no lL | exact bdT_ivs P.2.c | exact Nat.le_of_ble_eq_true rfl | exact bdl_no (by assumption) | exact bdl_no (flat_no _) | exact bdl_no (ivs_no _) | exact bdl_no (svs_no _) | exact Nat.max_le.2 ⟨Nat.le_of_ble_eq_true rfl, bdl_no (ivs_no _)⟩ | exact Nat.max_le.2 ⟨Nat.le_of_ble_eq_true rfl, bdl_no (svs_no _)⟩ | apply And.intro))⟩
 ·refine bool_false (ltN_f hi2) ?_
  conv => whnf
  refine .inl ?_
  conv => whnf
  refine ⟨_, rfl, ?_⟩
  have el : lf = blL L k := list_ext (hI.len.trans (blL_len L k).symm) fun a ha => by
   rw [hI.len] at ha
   rw [hI.v a ha, blL_get L ha, List.take_of_length_le (by omega)]
  show FzV _ (.slc 0 0 k k) (.lst (ivs (blL L k)) (blL L k).length .no)
  rw [blL_len]
  have hil := ivs_len (blL L k)
  rw [blL_len] at hil
  exact FzV.slcN (n := Nat.succ m) rfl (by omega) (fun j _ => by rw [← el]; exact hI.c j) ln
theorem rBal_nil {k : Nat} (hk5 : 2 ≤ k ∧ k ≤ 5) : Pure prog 17 [nv k, .nils] (nl (blL [] k)) := by
 have ln := ivs_no (blL [] k)
 obtain ⟨m, hm⟩ : ∃ m, k = m + 1 := ⟨k - 1, by omega⟩
 refine pure_symF (hEM (fun _ _ => false)) rfl (by repeat' (first | exact trivial | assumption | exact flat_no _ | exact (fun _ h => nomatch h) | apply And.intro)) (by repeat' (first | exact trivial | assumption | exact flat_no _ | exact (fun _ h => nomatch h) | apply And.intro)) fun S q pc hS hq hC hE => ?_
 conv => whnf
 refine bool_true (decide_eq_true (Int.le_refl _)) ?_
 conv => whnf
 refine bool_true (decide_eq_true (show Int.ofNat k ≤ 9223372036854775807 by show (k : Int) ≤ _; omega)) ?_
 conv => whnf
 refine bool_true (decide_eq_true (show 8 * (Int.ofNat k).toNat ≤ 2 * 140737488355328 by show 8 * k ≤ _; omega)) ?_
 conv => whnf
 refine nat_sym (show (Int.ofNat k).toNat = m + 1 from hm) ?_
 refine fcH0_mk ?_
 refine rep_sym (show m + 1 + 1 < 2 ^ 64 by omega) ?_
 intro t ht
 conv => whnf
 refine sym_unroll hE hS ?_
 conv => whnf
 refine ⟨_, rfl, ?_⟩
 show FzV _ (.slc 0 0 k k) (.lst (ivs (blL [] k)) (blL [] k).length .no)
 have hil := ivs_len (blL [] k)
 rw [blL_len] at hil ⊢
 refine FzV.slcN (n := Nat.succ m) rfl (by omega) (fun j hj => ?_) ln
 rw [ht, if_pos hj, ivs_getD (by rw [blL_len]; omega), blL_get [] (by omega)]
 rfl
theorem rBal_pure {k : Nat} {x : AV} {L : List LkI} (hx : LL x L) (h : bkOk (Int.ofNat k) L) : Pure prog 17 [nv k, x] (nl (blL L k)) := by
 rcases hx with ⟨rfl, rfl⟩ | rfl
 ·exact rBal_nil ⟨Int.ofNat_le.1 h.1.1, Int.ofNat_le.1 h.1.2⟩
 ·exact rBal_L h
theorem sSettle_no {x : AV} {L : List LkI} (hx : LL x L) {a : Int} (h : ¬ bkOk a L) : Pure prog 15 [iv a, x] (.tup [.nils, iv 2]) := by
 have p1 := isBook_pure hx a
 rw [decide_eq_false h] at p1
 have lx := hx.no
 rcases hx with ⟨rfl, rfl⟩ | rfl
 all_goals
  refine pure_sym hE rfl (by repeat' (first | exact trivial | assumption | exact flat_no _ | exact (fun _ h => nomatch h) | apply And.intro)) (by repeat' (first | exact trivial | assumption | exact flat_no _ | exact (fun _ h => nomatch h) | apply And.intro)) fun S q pc hS hq hC hE => ?_
  conv => whnf
  refine sym_pure hC (p1) ?_
  conv => whnf
  exact ⟨_, rfl, Wk.refl _⟩
end
end Go.Abs.Seat
