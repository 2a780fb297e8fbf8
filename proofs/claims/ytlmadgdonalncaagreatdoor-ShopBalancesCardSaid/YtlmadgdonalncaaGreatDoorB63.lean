/-
  Books of accounts: the best settlement, as the document finds it.
-/
import Derived.Test.YtlmadgdonalncaaGreatDoorB60
import Derived.Test.YtlmadgdonalncaaGreatDoorB61
import Derived.Test.YtlmadgdonalncaaGreatDoorU14
/-! Books of accounts: the best settlement, as the document finds it. -/
namespace Go.Abs.Seat
noncomputable section
open Go Go.Abs Go.Proofs.Tryz
set_option maxRecDepth 100000
set_option maxHeartbeats 40000000
attribute [local irreducible] IntKind.wrap pEq

theorem sub_bip {b : List Int} {E : List LkI} (h : E.Sublist (cnL b)) : ∀ j k, j < E.length → k < E.length → (gL E j).1 ≠ (gL E k).2.1 := fun j k hj hk z => by
 obtain ⟨f, t, _, _, h3, e⟩ := (cnF_mem b _ _).1 (h.mem (gL_mem' E hj))
 obtain ⟨f', t', _, _, h3', e'⟩ := (cnF_mem b _ _).1 (h.mem (gL_mem' E hk))
 rw [e, e'] at z
 have : f = t' := Int.ofNat.inj z
 subst this
 omega
theorem asc_at : ∀ {x : List Int} {lo hi : Int} {k : Nat}, Asc lo hi x → k < x.length → lo ≤ gi x k ∧ gi x k < hi
 | [], _, _, _, _, h => absurd h (Nat.not_lt_zero _)
 |q :: r, lo, hi, 0, h, _ => ⟨h.1, h.2.1⟩
 |q :: r, lo, hi, k + 1, h, hk => by
  have h1 : lo ≤ q := h.1
  have := asc_at (k := k) h.2.2 (Nat.lt_of_succ_lt_succ hk)
  exact ⟨by show lo ≤ gi r k; omega, this.2⟩
theorem take_pk {C : List LkI} {x : List Int} {k : Nat} (h : k < x.length) : pk C (x.take (k + 1)) = pk C (x.take k) ++ [((gL C (gi x k).toNat).1, (gL C (gi x k).toNat).2.1, (gL C (gi x k).toNat).2.2)] := by
 have e : x.take (k + 1) = x.take k ++ [gi x k] := by
  rw [List.take_succ_eq_append_getElem h]
  simp [gi, List.getD, h]
 rw [e]
 unfold pk
 rw [List.map_append]; rfl
theorem sv_ne {x : List Int} (h : x ≠ []) : sv x = nl x := by
 cases x with
 |nil => exact absurd rfl h
 |cons _ _ => rfl
theorem lV_ne {l : List (List Int)} (h : l ≠ []) : lV l = sl l := if_neg h
theorem lsts_ne : ∀ {k n : Nat}, n ≤ k → ∀ a, lsts n a k ≠ []
 | _, 0, _, a => by rw [lsts_zero]; simp
 | 0, n + 1, h, _ => absurd h (by omega)
 |k + 1, n + 1, h, a => by
  rw [lsts_succ]
  have := lsts_ne (k := k) (n := n) (by omega) (a + 1)
  simp [this]
theorem bd_sl (l : List (List Int)) {n : Nat} : bd (sl l) ≤ n := Nat.le_trans (Nat.le_of_eq (bd_no (sl l) ⟨svs_no l, fun _ h => nomatch h⟩)) (Nat.zero_le _)
def muR0 : Option Tmp → TypeId → Bool := fun d t => match d with
 |some 18 => t == 24
 | _ => false
theorem rsettled_nil {b : List Int} (hb : b.length ≤ 5) (hb2 : 2 ≤ b.length) {z : Bool} (hz : z = true ↔ ∀ j, j < b.length → b.getD j 0 = 0) : Pure prog 69 [nl b, .nils] (.tup [.nils, .bool z]) := by
 have ll := ivs_no b
 have l1 := ivs_len b
 obtain ⟨m, hm⟩ : ∃ m, b.length = m + 1 := ⟨b.length - 1, by omega⟩
 refine pure_symF (hEM muR0) rfl (by repeat' (first | exact trivial | assumption | exact flat_no _ | exact (fun _ h => nomatch h) | apply And.intro)) (by repeat' (first | exact trivial | assumption | exact flat_no _ | exact (fun _ h => nomatch h) | apply And.intro)) fun S q pc hS hq hC hE => ?_
 conv => whnf
 refine plan_as (pSrc_eq (e := 3) (ys := ivs b) (m := b.length) (own := .no) (l := ivs b) (by kernel_rfl) rfl (takeN_ivs _)) ?_
 rw [hm]
 conv => whnf
 refine bool_true (allCells_ivs b) ?_
 conv => whnf
 refine bool_true (decide_eq_true (show (m + 1) * 8 ≤ 140737488355328 by omega)) ?_
 conv => whnf
 refine bool_true (decide_eq_true (show m + 1 ≤ 9223372036854775807 by omega)) ?_
 conv => whnf
 refine newl_sym (l1.trans hm) ?_
 intro t1 ht1
 have ht1 : ∀ j, t1.get j = (ivs b)[j]? := ht1
 conv => whnf
 refine sym_unroll hE hS ?_
 conv => whnf
 refine sym_unroll hE hS ?_
 conv => whnf
 refine sym_loopG hE hS (A := Nat) [6, 7] (fun i => [(16, nv i)]) (fun _ => []) (fun _ => []) (fun i => i ≤ m + 1 ∧ ∀ j, j < i → b.getD j 0 = 0) (fun i => m + 1 - i) 0 (Nat.le_of_ble_eq_true rfl) rfl (by refine ⟨rfl, rfl, rfl, rfl, rfl, rfl, 2, rfl, ?_, ?_⟩ <;> repeat' (first | exact trivial | exact rfl | exact ⟨_, rfl, WkV.refl _⟩ | exact ⟨_, rfl, WkV.own _ _ _⟩ | exact Nat.zero_le _ | exact bdT_ivs ht1 | exact Nat.le_of_ble_eq_true rfl | exact bdl_no (by assumption) | exact bdl_no (flat_no _) | exact bdl_no (ivs_no _) | exact bdl_no (svs_no _) | exact Nat.max_le.2 ⟨Nat.le_of_ble_eq_true rfl, bdl_no (ivs_no _)⟩ | exact Nat.max_le.2 ⟨Nat.le_of_ble_eq_true rfl, bdl_no (svs_no _)⟩ | apply And.intro)) ⟨Nat.zero_le _, fun _ h => absurd h (Nat.not_lt_zero _)⟩ ?_
 rintro i ⟨hi, hj⟩ K hK
 obtain rfl : K = 2 := hK
 conv => whnf
 by_cases hi2 : i < m + 1
 ·have gi : t1.get (0 + i * 1) = some (iv (b.getD i 0)) := by rw [ht1, show 0 + i * 1 = i by omega, ivs_getD (l := b) (by omega)]
  have di : decide (0 + i * 1 < m + 1) = true := decide_eq_true (by omega)
  by_cases c : b.getD i 0 = 0
  ·have c0 : (b.getD i 0 != 0) = false := by rw [c]; rfl
   repeat ((first
    |refine plan_as (getP_as gi) ?_
    |refine ko_rT (ltN_t hi2) ?_
    |refine ko_sF (ltN_t hi2) ?_
    |refine plan_as (pick_t (ltN_t hi2)) ?_
    |refine bool_true (ltN_t hi2) ?_
    |refine ko_sT (ltN_t hi2) ?_
    |refine ko_rF (ltN_t hi2) ?_
    |refine plan_as (pick_f (ltN_t hi2)) ?_
    |refine bool_false (ltN_t hi2) ?_
    |refine ko_rT (inR_t hi2) ?_
    |refine ko_sF (inR_t hi2) ?_
    |refine plan_as (pick_t (inR_t hi2)) ?_
    |refine bool_true (inR_t hi2) ?_
    |refine ko_rT di ?_
    |refine ko_sF di ?_
    |refine plan_as (pick_t di) ?_
    |refine bool_true di ?_
    |refine ko_sT c0 ?_
    |refine ko_rF c0 ?_
    |refine plan_as (pick_f c0) ?_
    |refine bool_false c0 ?_
    |refine sym_drawn hS (by kernel_rfl) ?_); conv => whnf)
   exact ⟨i + 1, ⟨by omega, fun j h => by
    by_cases e : j = i
    ·rw [e]; exact c
    ·exact hj j (by omega)⟩, by omega, Nat.le_refl _, (by refine ⟨rfl, rfl, rfl, rfl, rfl, rfl, 2, rfl, ?_, ?_⟩ <;> repeat' (first | exact trivial | exact rfl | exact ⟨_, rfl, WkV.refl _⟩ | exact ⟨_, rfl, WkV.own _ _ _⟩ | exact Nat.zero_le _ | exact ⟨_, rfl, WkV.int (show IntKind.i64.wrap (Int.ofNat i + 1) = Int.ofNat (i + 1) from wrapN (m := i + 1) (by omega))⟩ | exact bdT_ivs ht1 | exact Nat.le_of_ble_eq_true rfl | exact bdl_no (by assumption) | exact bdl_no (flat_no _) | exact bdl_no (ivs_no _) | exact bdl_no (svs_no _) | exact Nat.max_le.2 ⟨Nat.le_of_ble_eq_true rfl, bdl_no (ivs_no _)⟩ | exact Nat.max_le.2 ⟨Nat.le_of_ble_eq_true rfl, bdl_no (svs_no _)⟩ | apply And.intro))⟩
  ·have c0 : (b.getD i 0 != 0) = true := bne_iff_ne.2 c
   repeat ((first
    |refine plan_as (getP_as gi) ?_
    |refine ko_rT (ltN_t hi2) ?_
    |refine ko_sF (ltN_t hi2) ?_
    |refine plan_as (pick_t (ltN_t hi2)) ?_
    |refine bool_true (ltN_t hi2) ?_
    |refine ko_sT (ltN_t hi2) ?_
    |refine ko_rF (ltN_t hi2) ?_
    |refine plan_as (pick_f (ltN_t hi2)) ?_
    |refine bool_false (ltN_t hi2) ?_
    |refine ko_rT (inR_t hi2) ?_
    |refine ko_sF (inR_t hi2) ?_
    |refine plan_as (pick_t (inR_t hi2)) ?_
    |refine bool_true (inR_t hi2) ?_
    |refine ko_rT di ?_
    |refine ko_sF di ?_
    |refine plan_as (pick_t di) ?_
    |refine bool_true di ?_
    |refine ko_rT c0 ?_
    |refine ko_sF c0 ?_
    |refine plan_as (pick_t c0) ?_
    |refine bool_true c0 ?_
    |refine sym_drawn hS (by kernel_rfl) ?_); conv => whnf)
   refine ⟨_, rfl, ?_⟩
   have z0 : z = false := Bool.eq_false_iff.2 fun k => c (hz.1 k i (by omega))
   rw [z0]
   exact FzV.no (v := .tup [.nils, .bool false]) ⟨trivial, trivial, trivial⟩
 ·refine bool_false (ltN_f hi2) ?_
  conv => whnf
  refine .inl ?_
  conv => whnf
  refine ⟨_, rfl, ?_⟩
  rw [hz.2 fun j h => hj j (by omega)]
  exact FzV.no (v := .tup [.nils, .bool true]) ⟨trivial, trivial, trivial⟩
--STUB--

theorem rsettle_pure {b : List Int} (hk5 : 2 ≤ b.length ∧ b.length ≤ 5) (hs0 : sumN b.length (fun a => b.getD a 0) = 0) (hbd : ∀ a, a < b.length → - 8000000 ≤ b.getD a 0 ∧ b.getD a 0 ≤ 8000000) {R : List LkI} (hR : BkS b R) : Pure prog 20 [nl b] (enV R) := by
 have lb := ivs_no b
 have lR : Live noL (enV R) := by unfold enV; split; trivial; exact lkA_no R
 refine pure_sym hE rfl (by repeat' (first | exact trivial | assumption | exact flat_no _ | exact (fun _ h => nomatch h) | apply And.intro)) (by repeat' (first | exact trivial | assumption | exact flat_no _ | exact (fun _ h => nomatch h) | apply And.intro)) fun S q pc hS hq hC hE => ?_
 conv => whnf
 refine sym_hideE fun K hK => ?_
 refine sym_loopR hE hS (A := Nat × AV × List AObj) [] (fun x hx => nomatch hx) [0] (fun (i, v, _) => [(3, v), (4, nv i)]) (fun _ => []) (fun a => a.2.2) (fun (i, v, ux) => i ≤ b.length ∧ grE 0 (cnF b i) v ux) (fun (i, _) => b.length - i) (0, .nils, []) (Nat.le_of_ble_eq_true rfl) trivial rfl (by repeat' (first | exact trivial | exact Nat.zero_le _ | exact bdl_no lb | exact Nat.le_of_ble_eq_true rfl | exact bdl_no (by assumption) | exact bdl_no (flat_no _) | exact bdl_no (ivs_no _) | exact bdl_no (svs_no _) | exact Nat.max_le.2 ⟨Nat.le_of_ble_eq_true rfl, bdl_no (ivs_no _)⟩ | exact Nat.max_le.2 ⟨Nat.le_of_ble_eq_true rfl, bdl_no (svs_no _)⟩ | apply And.intro)) (by refine ⟨rfl, rfl, rfl, rfl, rfl, rfl, by decide, ?_, ?_, ?_, by kernel_rfl, ?_, ?_⟩ <;> repeat' (first | exact trivial | exact rfl | exact ⟨_, rfl, RnV.wk (WkV.refl _) (Nat.zero_le _)⟩ | exact ⟨_, rfl, RnV.wk (WkV.refl _) (Nat.le_of_ble_eq_true rfl)⟩ | exact TrIw.refl _ _ _ _ _ | exact OWk.same _ | exact OWk.loop _ _ _ _ _ _ _ (by repeat' (first | exact trivial | exact WkV.refl _ | exact WkV.unk _ | apply And.intro)) | exact Nat.zero_le _ | exact bdl_no lb | exact bdl_no lb | exact ⟨_, rfl, RnV.wk (WkV.refl _) (bd_nl b)⟩ | exact bd_enC _ (by decide) | exact Nat.le_of_ble_eq_true rfl | exact bdl_no (by assumption) | exact bdl_no (flat_no _) | exact bdl_no (ivs_no _) | exact bdl_no (svs_no _) | exact Nat.max_le.2 ⟨Nat.le_of_ble_eq_true rfl, bdl_no (ivs_no _)⟩ | exact Nat.max_le.2 ⟨Nat.le_of_ble_eq_true rfl, bdl_no (svs_no _)⟩ | apply And.intro)) ⟨Nat.zero_le _, .inl ⟨rfl, rfl, rfl⟩⟩ ?_
 rintro ⟨i, v, ux⟩ ⟨hi, ⟨he, rfl, rfl⟩ | ⟨he, rfl, rfl⟩⟩ Q hQ
 ·obtain rfl : Q = 0 := hQ
  conv => whnf
  by_cases hi2 : i < b.length
  ·refine bool_true (ltN_t hi2) ?_
   conv => whnf
   have gi := nth_ivs1 (l := b) (i := i) hi2
   have hi1 : IntKind.i64.wrap (Int.ofNat i + 1) = Int.ofNat (i + 1) := wrapN (m := i + 1) (by omega)
   refine sym_hideE fun K hK => ?_
   refine sym_loopR hE hS (A := Nat × AV × List AObj) [] (fun x hx => nomatch hx) [0, 4] (fun (j, v, _) => [(3, v), (5, nv j)]) (fun _ => []) (fun a => a.2.2) (fun (j, v, ux) => j ≤ b.length ∧ grE 0 (cnB b i j) v ux) (fun (j, _) => b.length - j) (0, .nils, []) (Nat.le_of_ble_eq_true rfl) trivial rfl (by repeat' (first | exact trivial | exact Nat.zero_le _ | exact bdl_no lb | exact Nat.le_of_ble_eq_true rfl | exact bdl_no (by assumption) | exact bdl_no (flat_no _) | exact bdl_no (ivs_no _) | exact bdl_no (svs_no _) | exact Nat.max_le.2 ⟨Nat.le_of_ble_eq_true rfl, bdl_no (ivs_no _)⟩ | exact Nat.max_le.2 ⟨Nat.le_of_ble_eq_true rfl, bdl_no (svs_no _)⟩ | apply And.intro)) (by refine ⟨rfl, rfl, rfl, rfl, rfl, rfl, by decide, ?_, ?_, ?_, by kernel_rfl, ?_, ?_⟩ <;> repeat' (first | exact trivial | exact rfl | exact ⟨_, rfl, RnV.wk (WkV.refl _) (Nat.zero_le _)⟩ | exact ⟨_, rfl, RnV.wk (WkV.refl _) (Nat.le_of_ble_eq_true rfl)⟩ | exact TrIw.refl _ _ _ _ _ | exact OWk.same _ | exact OWk.loop _ _ _ _ _ _ _ (by repeat' (first | exact trivial | exact WkV.refl _ | exact WkV.unk _ | apply And.intro)) | exact Nat.zero_le _ | exact bdl_no lb | exact bdl_no lb | exact ⟨_, rfl, RnV.wk (WkV.refl _) (bd_nl b)⟩ | exact bd_enC _ (by decide) | exact Nat.le_of_ble_eq_true rfl | exact bdl_no (by assumption) | exact bdl_no (flat_no _) | exact bdl_no (ivs_no _) | exact bdl_no (svs_no _) | exact Nat.max_le.2 ⟨Nat.le_of_ble_eq_true rfl, bdl_no (ivs_no _)⟩ | exact Nat.max_le.2 ⟨Nat.le_of_ble_eq_true rfl, bdl_no (svs_no _)⟩ | apply And.intro)) ⟨Nat.zero_le _, .inl ⟨rfl, rfl, rfl⟩⟩ ?_
   rintro ⟨j, v, ux⟩ ⟨hj, ⟨hb0, rfl, rfl⟩ | ⟨hb0, rfl, rfl⟩⟩ Q hQ
   ·obtain rfl : Q = 0 := hQ
    conv => whnf
    by_cases hj2 : j < b.length
    ·refine bool_true (ltN_t hj2) ?_
     conv => whnf
     have gj := nth_ivs1 (l := b) (i := j) hj2
     have hj1 : IntKind.i64.wrap (Int.ofNat j + 1) = Int.ofNat (j + 1) := wrapN (m := j + 1) (by omega)
     by_cases p1 : b.getD i 0 > 0
     ·have c1 : decide (b.getD i 0 > 0) = true := decide_eq_true p1
      by_cases p2 : b.getD j 0 < 0
      ·have c2 : decide (b.getD j 0 < 0) = true := decide_eq_true p2
       have hc : 0 < b.getD i 0 ∧ b.getD j 0 < 0 := ⟨p1, p2⟩
       repeat ((first
        |refine plan_as (nthP gi) ?_
        |refine plan_as (nthP gj) ?_
        |refine ko_rT (inR_t hi2) ?_
        |refine ko_sF (inR_t hi2) ?_
        |refine plan_as (pick_t (inR_t hi2)) ?_
        |refine bool_true (inR_t hi2) ?_
        |refine ko_rT (inR_t hj2) ?_
        |refine ko_sF (inR_t hj2) ?_
        |refine plan_as (pick_t (inR_t hj2)) ?_
        |refine bool_true (inR_t hj2) ?_
        |refine ko_rT c1 ?_
        |refine ko_sF c1 ?_
        |refine plan_as (pick_t c1) ?_
        |refine bool_true c1 ?_
        |refine ko_rT (gd_tt c1) ?_
        |refine ko_sF (gd_tt c1) ?_
        |refine plan_as (pick_t (gd_tt c1)) ?_
        |refine bool_true (gd_tt c1) ?_
        |refine ko_rT c2 ?_
        |refine ko_sF c2 ?_
        |refine plan_as (pick_t c2) ?_
        |refine bool_true c2 ?_
        |refine sym_drawn hS (by kernel_rfl) ?_); conv => whnf)
       have e1 : cnB b i (j + 1) = [(Int.ofNat i, Int.ofNat j, 0)] := by rw [cnB, if_pos hc, hb0]; rfl
       exact ⟨(j + 1, enC [(Int.ofNat i, Int.ofNat j, 0)] 0, [.chain 1 3 38]), [0], ⟨hj2, .inr ⟨by rw [e1]; simp, by rw [e1], by rw [e1]; rfl⟩⟩, by show b.length - (j + 1) < b.length - j; omega, (by refine ⟨rfl, rfl, rfl, rfl, rfl, rfl, by decide, ?_, ?_, ?_, by kernel_rfl, ?_, ?_⟩ <;> repeat' (first | exact trivial | exact rfl | exact ⟨_, rfl, RnV.wk (WkV.refl _) (Nat.zero_le _)⟩ | exact ⟨_, rfl, RnV.wk (WkV.refl _) (Nat.le_of_ble_eq_true rfl)⟩ | exact TrIw.refl _ _ _ _ _ | exact OWk.same _ | exact OWk.loop _ _ _ _ _ _ _ (by repeat' (first | exact trivial | exact WkV.refl _ | exact WkV.unk _ | apply And.intro)) | exact Nat.zero_le _ | exact ⟨_, rfl, RnV.wk (WkV.int hj1) (Nat.zero_le _)⟩ | exact ⟨_, rfl, rnE0 (j := 0) (by decide) rfl rfl⟩ | exact bdl_no lb | exact ⟨_, rfl, RnV.wk (WkV.refl _) (bd_nl b)⟩ | exact bd_enC _ (by decide) | exact Nat.le_of_ble_eq_true rfl | exact bdl_no (by assumption) | exact bdl_no (flat_no _) | exact bdl_no (ivs_no _) | exact bdl_no (svs_no _) | exact Nat.max_le.2 ⟨Nat.le_of_ble_eq_true rfl, bdl_no (ivs_no _)⟩ | exact Nat.max_le.2 ⟨Nat.le_of_ble_eq_true rfl, bdl_no (svs_no _)⟩ | apply And.intro))⟩
      ·have c2 : decide (b.getD j 0 < 0) = false := decide_eq_false p2
       have hc : ¬ (0 < b.getD i 0 ∧ b.getD j 0 < 0) := fun z => p2 z.2
       repeat ((first
        |refine plan_as (nthP gi) ?_
        |refine plan_as (nthP gj) ?_
        |refine ko_rT (inR_t hi2) ?_
        |refine ko_sF (inR_t hi2) ?_
        |refine plan_as (pick_t (inR_t hi2)) ?_
        |refine bool_true (inR_t hi2) ?_
        |refine ko_rT (inR_t hj2) ?_
        |refine ko_sF (inR_t hj2) ?_
        |refine plan_as (pick_t (inR_t hj2)) ?_
        |refine bool_true (inR_t hj2) ?_
        |refine ko_rT c1 ?_
        |refine ko_sF c1 ?_
        |refine plan_as (pick_t c1) ?_
        |refine bool_true c1 ?_
        |refine ko_rT (gd_tt c1) ?_
        |refine ko_sF (gd_tt c1) ?_
        |refine plan_as (pick_t (gd_tt c1)) ?_
        |refine bool_true (gd_tt c1) ?_
        |refine ko_sT c2 ?_
        |refine ko_rF c2 ?_
        |refine plan_as (pick_f c2) ?_
        |refine bool_false c2 ?_
        |refine sym_drawn hS (by kernel_rfl) ?_); conv => whnf)
       have e1 : cnB b i (j + 1) = [] := by rw [cnB, if_neg hc, hb0]; rfl
       exact ⟨(j + 1, .nils, []), [], ⟨hj2, .inl ⟨e1, rfl, rfl⟩⟩, by show b.length - (j + 1) < b.length - j; omega, (by refine ⟨rfl, rfl, rfl, rfl, rfl, rfl, by decide, ?_, ?_, ?_, by kernel_rfl, ?_, ?_⟩ <;> repeat' (first | exact trivial | exact rfl | exact ⟨_, rfl, RnV.wk (WkV.refl _) (Nat.zero_le _)⟩ | exact ⟨_, rfl, RnV.wk (WkV.refl _) (Nat.le_of_ble_eq_true rfl)⟩ | exact TrIw.refl _ _ _ _ _ | exact OWk.same _ | exact OWk.loop _ _ _ _ _ _ _ (by repeat' (first | exact trivial | exact WkV.refl _ | exact WkV.unk _ | apply And.intro)) | exact Nat.zero_le _ | exact ⟨_, rfl, RnV.wk (WkV.int hj1) (Nat.zero_le _)⟩ | exact bdl_no lb | exact ⟨_, rfl, RnV.wk (WkV.refl _) (bd_nl b)⟩ | exact bd_enC _ (by decide) | exact Nat.le_of_ble_eq_true rfl | exact bdl_no (by assumption) | exact bdl_no (flat_no _) | exact bdl_no (ivs_no _) | exact bdl_no (svs_no _) | exact Nat.max_le.2 ⟨Nat.le_of_ble_eq_true rfl, bdl_no (ivs_no _)⟩ | exact Nat.max_le.2 ⟨Nat.le_of_ble_eq_true rfl, bdl_no (svs_no _)⟩ | apply And.intro))⟩
     ·have c1 : decide (b.getD i 0 > 0) = false := decide_eq_false p1
      have hc : ¬ (0 < b.getD i 0 ∧ b.getD j 0 < 0) := fun z => p1 z.1
      repeat ((first
       |refine plan_as (nthP gi) ?_
       |refine ko_rT (inR_t hi2) ?_
       |refine ko_sF (inR_t hi2) ?_
       |refine plan_as (pick_t (inR_t hi2)) ?_
       |refine bool_true (inR_t hi2) ?_
       |refine ko_sT c1 ?_
       |refine ko_rF c1 ?_
       |refine plan_as (pick_f c1) ?_
       |refine bool_false c1 ?_
       |refine ko_sT (gd_tf c1) ?_
       |refine ko_rF (gd_tf c1) ?_
       |refine plan_as (pick_f (gd_tf c1)) ?_
       |refine bool_false (gd_tf c1) ?_
       |refine sym_drawn hS (by kernel_rfl) ?_); conv => whnf)
      have e1 : cnB b i (j + 1) = [] := by rw [cnB, if_neg hc, hb0]; rfl
      exact ⟨(j + 1, .nils, []), [], ⟨hj2, .inl ⟨e1, rfl, rfl⟩⟩, by show b.length - (j + 1) < b.length - j; omega, (by refine ⟨rfl, rfl, rfl, rfl, rfl, rfl, by decide, ?_, ?_, ?_, by kernel_rfl, ?_, ?_⟩ <;> repeat' (first | exact trivial | exact rfl | exact ⟨_, rfl, RnV.wk (WkV.refl _) (Nat.zero_le _)⟩ | exact ⟨_, rfl, RnV.wk (WkV.refl _) (Nat.le_of_ble_eq_true rfl)⟩ | exact TrIw.refl _ _ _ _ _ | exact OWk.same _ | exact OWk.loop _ _ _ _ _ _ _ (by repeat' (first | exact trivial | exact WkV.refl _ | exact WkV.unk _ | apply And.intro)) | exact Nat.zero_le _ | exact ⟨_, rfl, RnV.wk (WkV.int hj1) (Nat.zero_le _)⟩ | exact bdl_no lb | exact ⟨_, rfl, RnV.wk (WkV.refl _) (bd_nl b)⟩ | exact bd_enC _ (by decide) | exact Nat.le_of_ble_eq_true rfl | exact bdl_no (by assumption) | exact bdl_no (flat_no _) | exact bdl_no (ivs_no _) | exact bdl_no (svs_no _) | exact Nat.max_le.2 ⟨Nat.le_of_ble_eq_true rfl, bdl_no (ivs_no _)⟩ | exact Nat.max_le.2 ⟨Nat.le_of_ble_eq_true rfl, bdl_no (svs_no _)⟩ | apply And.intro))⟩
    ·refine bool_false (ltN_f hj2) ?_
     conv => whnf
     refine hK _ _ ?_
     conv => whnf
     have ej : b.length = j := by omega
     have e1 : cnF b (i + 1) = [] := by rw [cnF, ej, he, hb0]; rfl
     exact ⟨(i + 1, .nils, []), [], ⟨hi2, .inl ⟨e1, rfl, rfl⟩⟩, by show b.length - (i + 1) < b.length - i; omega, (by refine ⟨rfl, rfl, rfl, rfl, rfl, rfl, by decide, ?_, ?_, ?_, by kernel_rfl, ?_, ?_⟩ <;> repeat' (first | exact trivial | exact rfl | exact ⟨_, rfl, RnV.wk (WkV.refl _) (Nat.zero_le _)⟩ | exact ⟨_, rfl, RnV.wk (WkV.refl _) (Nat.le_of_ble_eq_true rfl)⟩ | exact TrIw.refl _ _ _ _ _ | exact OWk.same _ | exact OWk.loop _ _ _ _ _ _ _ (by repeat' (first | exact trivial | exact WkV.refl _ | exact WkV.unk _ | apply And.intro)) | exact Nat.zero_le _ | exact ⟨_, rfl, RnV.wk (WkV.int hi1) (Nat.zero_le _)⟩ | exact bdl_no lb | exact ⟨_, rfl, RnV.wk (WkV.refl _) (bd_nl b)⟩ | exact bd_enC _ (by decide) | exact Nat.le_of_ble_eq_true rfl | exact bdl_no (by assumption) | exact bdl_no (flat_no _) | exact bdl_no (ivs_no _) | exact bdl_no (svs_no _) | exact Nat.max_le.2 ⟨Nat.le_of_ble_eq_true rfl, bdl_no (ivs_no _)⟩ | exact Nat.max_le.2 ⟨Nat.le_of_ble_eq_true rfl, bdl_no (svs_no _)⟩ | apply And.intro))⟩
   ·obtain rfl : Q = 1 := hQ
    conv => whnf
    have hXl : (cnB b i j).length ≤ 1000 := by have := cnB_len b i j; omega
    by_cases hj2 : j < b.length
    ·refine bool_true (ltN_t hj2) ?_
     conv => whnf
     have gj := nth_ivs1 (l := b) (i := j) hj2
     have hj1 : IntKind.i64.wrap (Int.ofNat j + 1) = Int.ofNat (j + 1) := wrapN (m := j + 1) (by omega)
     by_cases p1 : b.getD i 0 > 0
     ·have c1 : decide (b.getD i 0 > 0) = true := decide_eq_true p1
      by_cases p2 : b.getD j 0 < 0
      ·have c2 : decide (b.getD j 0 < 0) = true := decide_eq_true p2
       have hc : 0 < b.getD i 0 ∧ b.getD j 0 < 0 := ⟨p1, p2⟩
       repeat ((first
        |refine plan_as (nthP gi) ?_
        |refine plan_as (nthP gj) ?_
        |refine ko_rT (inR_t hi2) ?_
        |refine ko_sF (inR_t hi2) ?_
        |refine plan_as (pick_t (inR_t hi2)) ?_
        |refine bool_true (inR_t hi2) ?_
        |refine ko_rT (inR_t hj2) ?_
        |refine ko_sF (inR_t hj2) ?_
        |refine plan_as (pick_t (inR_t hj2)) ?_
        |refine bool_true (inR_t hj2) ?_
        |refine ko_rT c1 ?_
        |refine ko_sF c1 ?_
        |refine plan_as (pick_t c1) ?_
        |refine bool_true c1 ?_
        |refine ko_rT (gd_tt c1) ?_
        |refine ko_sF (gd_tt c1) ?_
        |refine plan_as (pick_t (gd_tt c1)) ?_
        |refine bool_true (gd_tt c1) ?_
        |refine ko_rT c2 ?_
        |refine ko_sF c2 ?_
        |refine plan_as (pick_t c2) ?_
        |refine bool_true c2 ?_
        |refine sym_drawn hS (by kernel_rfl) ?_); conv => whnf)
       refine bool_true (decide_eq_true (show ((cnB b i j).length + (0 + 1)) * 24 ≤ 140737488355328 by omega)) ?_
       conv => whnf
       refine bool_true (decide_eq_true (show (cnB b i j).length + (0 + 1) ≤ 9223372036854775807 by omega)) ?_
       conv => whnf
       refine bool_true (lenIs_en (cnB b i j)) ?_
       conv => whnf
       refine bool_true (decide_eq_true rfl) ?_
       conv => whnf
       have e1 : cnB b i (j + 1) = cnB b i j ++ [(Int.ofNat i, Int.ofNat j, 0)] := by rw [cnB, if_pos hc]
       exact ⟨(j + 1, enC (cnB b i j ++ [(Int.ofNat i, Int.ofNat j, 0)]) 0, [.chain (cnB b i j ++ [(Int.ofNat i, Int.ofNat j, 0)]).length 3 38]), [0], ⟨hj2, .inr ⟨by rw [e1]; simp, by rw [e1], by rw [e1]⟩⟩, by show b.length - (j + 1) < b.length - j; omega, (by refine ⟨rfl, rfl, rfl, rfl, rfl, rfl, by decide, ?_, ?_, ?_, by kernel_rfl, ?_, ?_⟩ <;> repeat' (first | exact trivial | exact rfl | exact ⟨_, rfl, RnV.wk (WkV.refl _) (Nat.zero_le _)⟩ | exact ⟨_, rfl, RnV.wk (WkV.refl _) (Nat.le_of_ble_eq_true rfl)⟩ | exact TrIw.refl _ _ _ _ _ | exact OWk.same _ | exact OWk.loop _ _ _ _ _ _ _ (by repeat' (first | exact trivial | exact WkV.refl _ | exact WkV.unk _ | apply And.intro)) | exact Nat.zero_le _ | exact ⟨_, rfl, RnV.wk (WkV.int hj1) (Nat.zero_le _)⟩ | exact ⟨_, rfl, rnE (j := 0) (by decide) rfl rfl⟩ | exact enH_app _ _ | exact bdl_no lb | exact ⟨_, rfl, RnV.wk (WkV.refl _) (bd_nl b)⟩ | exact bd_enC _ (by decide) | exact Nat.le_of_ble_eq_true rfl | exact bdl_no (by assumption) | exact bdl_no (flat_no _) | exact bdl_no (ivs_no _) | exact bdl_no (svs_no _) | exact Nat.max_le.2 ⟨Nat.le_of_ble_eq_true rfl, bdl_no (ivs_no _)⟩ | exact Nat.max_le.2 ⟨Nat.le_of_ble_eq_true rfl, bdl_no (svs_no _)⟩ | apply And.intro))⟩
      ·have c2 : decide (b.getD j 0 < 0) = false := decide_eq_false p2
       have hc : ¬ (0 < b.getD i 0 ∧ b.getD j 0 < 0) := fun z => p2 z.2
       repeat ((first
        |refine plan_as (nthP gi) ?_
        |refine plan_as (nthP gj) ?_
        |refine ko_rT (inR_t hi2) ?_
        |refine ko_sF (inR_t hi2) ?_
        |refine plan_as (pick_t (inR_t hi2)) ?_
        |refine bool_true (inR_t hi2) ?_
        |refine ko_rT (inR_t hj2) ?_
        |refine ko_sF (inR_t hj2) ?_
        |refine plan_as (pick_t (inR_t hj2)) ?_
        |refine bool_true (inR_t hj2) ?_
        |refine ko_rT c1 ?_
        |refine ko_sF c1 ?_
        |refine plan_as (pick_t c1) ?_
        |refine bool_true c1 ?_
        |refine ko_rT (gd_tt c1) ?_
        |refine ko_sF (gd_tt c1) ?_
        |refine plan_as (pick_t (gd_tt c1)) ?_
        |refine bool_true (gd_tt c1) ?_
        |refine ko_sT c2 ?_
        |refine ko_rF c2 ?_
        |refine plan_as (pick_f c2) ?_
        |refine bool_false c2 ?_
        |refine sym_drawn hS (by kernel_rfl) ?_); conv => whnf)
       have e1 : cnB b i (j + 1) = cnB b i j := by rw [cnB, if_neg hc, List.append_nil]
       exact ⟨(j + 1, enC (cnB b i j) 0, [.chain (cnB b i j).length 3 38]), [0], ⟨hj2, .inr ⟨by rw [e1]; exact hb0, by rw [e1], by rw [e1]⟩⟩, by show b.length - (j + 1) < b.length - j; omega, (by refine ⟨rfl, rfl, rfl, rfl, rfl, rfl, by decide, ?_, ?_, ?_, by kernel_rfl, ?_, ?_⟩ <;> repeat' (first | exact trivial | exact rfl | exact ⟨_, rfl, RnV.wk (WkV.refl _) (Nat.zero_le _)⟩ | exact ⟨_, rfl, RnV.wk (WkV.refl _) (Nat.le_of_ble_eq_true rfl)⟩ | exact TrIw.refl _ _ _ _ _ | exact OWk.same _ | exact OWk.loop _ _ _ _ _ _ _ (by repeat' (first | exact trivial | exact WkV.refl _ | exact WkV.unk _ | apply And.intro)) | exact Nat.zero_le _ | exact ⟨_, rfl, RnV.wk (WkV.int hj1) (Nat.zero_le _)⟩ | exact ⟨_, rfl, rnC (j := 0) (by decide) rfl rfl (lks_no _)⟩ | exact bdl_no lb | exact ⟨_, rfl, RnV.wk (WkV.refl _) (bd_nl b)⟩ | exact bd_enC _ (by decide) | exact Nat.le_of_ble_eq_true rfl | exact bdl_no (by assumption) | exact bdl_no (flat_no _) | exact bdl_no (ivs_no _) | exact bdl_no (svs_no _) | exact Nat.max_le.2 ⟨Nat.le_of_ble_eq_true rfl, bdl_no (ivs_no _)⟩ | exact Nat.max_le.2 ⟨Nat.le_of_ble_eq_true rfl, bdl_no (svs_no _)⟩ | apply And.intro))⟩
     ·have c1 : decide (b.getD i 0 > 0) = false := decide_eq_false p1
      have hc : ¬ (0 < b.getD i 0 ∧ b.getD j 0 < 0) := fun z => p1 z.1
      repeat ((first
       |refine plan_as (nthP gi) ?_
       |refine ko_rT (inR_t hi2) ?_
       |refine ko_sF (inR_t hi2) ?_
       |refine plan_as (pick_t (inR_t hi2)) ?_
       |refine bool_true (inR_t hi2) ?_
       |refine ko_sT c1 ?_
       |refine ko_rF c1 ?_
       |refine plan_as (pick_f c1) ?_
       |refine bool_false c1 ?_
       |refine ko_sT (gd_tf c1) ?_
       |refine ko_rF (gd_tf c1) ?_
       |refine plan_as (pick_f (gd_tf c1)) ?_
       |refine bool_false (gd_tf c1) ?_
       |refine sym_drawn hS (by kernel_rfl) ?_); conv => whnf)
      have e1 : cnB b i (j + 1) = cnB b i j := by rw [cnB, if_neg hc, List.append_nil]
      exact ⟨(j + 1, enC (cnB b i j) 0, [.chain (cnB b i j).length 3 38]), [0], ⟨hj2, .inr ⟨by rw [e1]; exact hb0, by rw [e1], by rw [e1]⟩⟩, by show b.length - (j + 1) < b.length - j; omega, (by refine ⟨rfl, rfl, rfl, rfl, rfl, rfl, by decide, ?_, ?_, ?_, by kernel_rfl, ?_, ?_⟩ <;> repeat' (first | exact trivial | exact rfl | exact ⟨_, rfl, RnV.wk (WkV.refl _) (Nat.zero_le _)⟩ | exact ⟨_, rfl, RnV.wk (WkV.refl _) (Nat.le_of_ble_eq_true rfl)⟩ | exact TrIw.refl _ _ _ _ _ | exact OWk.same _ | exact OWk.loop _ _ _ _ _ _ _ (by repeat' (first | exact trivial | exact WkV.refl _ | exact WkV.unk _ | apply And.intro)) | exact Nat.zero_le _ | exact ⟨_, rfl, RnV.wk (WkV.int hj1) (Nat.zero_le _)⟩ | exact ⟨_, rfl, rnC (j := 0) (by decide) rfl rfl (lks_no _)⟩ | exact bdl_no lb | exact ⟨_, rfl, RnV.wk (WkV.refl _) (bd_nl b)⟩ | exact bd_enC _ (by decide) | exact Nat.le_of_ble_eq_true rfl | exact bdl_no (by assumption) | exact bdl_no (flat_no _) | exact bdl_no (ivs_no _) | exact bdl_no (svs_no _) | exact Nat.max_le.2 ⟨Nat.le_of_ble_eq_true rfl, bdl_no (ivs_no _)⟩ | exact Nat.max_le.2 ⟨Nat.le_of_ble_eq_true rfl, bdl_no (svs_no _)⟩ | apply And.intro))⟩
    ·refine bool_false (ltN_f hj2) ?_
     conv => whnf
     refine hK _ _ ?_
     conv => whnf
     have ej : b.length = j := by omega
     have e1 : cnF b (i + 1) = cnB b i j := by rw [cnF, ej, he]; rfl
     exact ⟨(i + 1, enC (cnB b i j) 0, [.chain (cnB b i j).length 3 38]), [0], ⟨hi2, .inr ⟨by rw [e1]; exact hb0, by rw [e1], by rw [e1]⟩⟩, by show b.length - (i + 1) < b.length - i; omega, (by refine ⟨rfl, rfl, rfl, rfl, rfl, rfl, by decide, ?_, ?_, ?_, by kernel_rfl, ?_, ?_⟩ <;> repeat' (first | exact trivial | exact rfl | exact ⟨_, rfl, RnV.wk (WkV.refl _) (Nat.zero_le _)⟩ | exact ⟨_, rfl, RnV.wk (WkV.refl _) (Nat.le_of_ble_eq_true rfl)⟩ | exact TrIw.refl _ _ _ _ _ | exact OWk.same _ | exact OWk.loop _ _ _ _ _ _ _ (by repeat' (first | exact trivial | exact WkV.refl _ | exact WkV.unk _ | apply And.intro)) | exact Nat.zero_le _ | exact ⟨_, rfl, RnV.wk (WkV.int hi1) (Nat.zero_le _)⟩ | exact ⟨_, rfl, rnC (j := 0) (by decide) rfl rfl (lks_no _)⟩ | exact bdl_no lb | exact ⟨_, rfl, RnV.wk (WkV.refl _) (bd_nl b)⟩ | exact bd_enC _ (by decide) | exact Nat.le_of_ble_eq_true rfl | exact bdl_no (by assumption) | exact bdl_no (flat_no _) | exact bdl_no (ivs_no _) | exact bdl_no (svs_no _) | exact Nat.max_le.2 ⟨Nat.le_of_ble_eq_true rfl, bdl_no (ivs_no _)⟩ | exact Nat.max_le.2 ⟨Nat.le_of_ble_eq_true rfl, bdl_no (svs_no _)⟩ | apply And.intro))⟩
  ·refine bool_false (ltN_f hi2) ?_
   conv => whnf
   have ei : b.length = i := by omega
   rw [← ei] at he
   clear ei hi hi2
   refine hK _ _ ?_
   conv => whnf
   have hz := cn_nil hs0 he
   have pS := rsettled_nil hk5.2 hk5.1 (z := true) ⟨fun _ => hz, fun _ => rfl⟩
   have r0 : R = [] := by
    obtain ⟨E, e1, e2, _⟩ := hR
    have e0 : E = [] := List.sublist_nil.1 (he ▸ e1)
    rw [e0] at e2
    have e3 := (slv_nil0 hz).symm.trans e2
    injection e3 with e3
    exact e3.symm
   rw [r0]
   refine sym_unroll hE hS ?_
   conv => whnf
   refine sym_pure hC (pS) ?_
   conv => whnf
   exact ⟨_, rfl, Wk.refl _⟩
 ·obtain rfl : Q = 1 := hQ
  conv => whnf
  by_cases hi2 : i < b.length
  ·refine bool_true (ltN_t hi2) ?_
   conv => whnf
   have gi := nth_ivs1 (l := b) (i := i) hi2
   have hi1 : IntKind.i64.wrap (Int.ofNat i + 1) = Int.ofNat (i + 1) := wrapN (m := i + 1) (by omega)
   refine sym_hideE fun K hK => ?_
   have eM1 := congrArg (fun l => enC l 0) (List.append_nil (cnF b i)).symm
   have eM2 := congrArg (fun l => AObj.chain l.length 3 38) (List.append_nil (cnF b i)).symm
   refine sym_loopG hE hS (A := Nat) [0, 4] (fun j => [(3, enC (cnF b i ++ cnB b i j) 0), (5, nv j)]) (fun j => [(0, .chain (cnF b i ++ cnB b i j).length 3 38)]) (fun _ => []) (fun j => j ≤ b.length) (fun j => b.length - j) 0 (Nat.le_of_ble_eq_true rfl) rfl (by refine ⟨rfl, rfl, rfl, rfl, rfl, rfl, 1, rfl, ?_, ?_⟩ <;> repeat' (first | exact trivial | exact rfl | exact ⟨_, rfl, WkV.refl _⟩ | exact ⟨_, rfl, WkV.own _ _ _⟩ | exact Nat.zero_le _ | exact ⟨_, rfl, WkV.eq eM1⟩ | exact eM2 | exact bdl_no lb | exact bd_enC _ (by decide) | exact Nat.le_of_ble_eq_true rfl | exact bdl_no (by assumption) | exact bdl_no (flat_no _) | exact bdl_no (ivs_no _) | exact bdl_no (svs_no _) | exact Nat.max_le.2 ⟨Nat.le_of_ble_eq_true rfl, bdl_no (ivs_no _)⟩ | exact Nat.max_le.2 ⟨Nat.le_of_ble_eq_true rfl, bdl_no (svs_no _)⟩ | apply And.intro)) (Nat.zero_le _) ?_
   intro j hj Q hQ
   obtain rfl : Q = 1 := hQ
   conv => whnf
   have hXl : (cnF b i ++ cnB b i j).length ≤ 1000 := by
    have g1 := cnF_len b i
    have g2 := cnB_len b i j
    have g3 : i * b.length ≤ 5 * 5 := Nat.mul_le_mul (by omega) (by omega)
    rw [List.length_append]; omega
   by_cases hj2 : j < b.length
   ·refine bool_true (ltN_t hj2) ?_
    conv => whnf
    have gj := nth_ivs1 (l := b) (i := j) hj2
    have hj1 : IntKind.i64.wrap (Int.ofNat j + 1) = Int.ofNat (j + 1) := wrapN (m := j + 1) (by omega)
    by_cases p1 : b.getD i 0 > 0
    ·have c1 : decide (b.getD i 0 > 0) = true := decide_eq_true p1
     by_cases p2 : b.getD j 0 < 0
     ·have c2 : decide (b.getD j 0 < 0) = true := decide_eq_true p2
      have hc : 0 < b.getD i 0 ∧ b.getD j 0 < 0 := ⟨p1, p2⟩
      repeat ((first
       |refine plan_as (nthP gi) ?_
       |refine plan_as (nthP gj) ?_
       |refine ko_rT (inR_t hi2) ?_
       |refine ko_sF (inR_t hi2) ?_
       |refine plan_as (pick_t (inR_t hi2)) ?_
       |refine bool_true (inR_t hi2) ?_
       |refine ko_rT (inR_t hj2) ?_
       |refine ko_sF (inR_t hj2) ?_
       |refine plan_as (pick_t (inR_t hj2)) ?_
       |refine bool_true (inR_t hj2) ?_
       |refine ko_rT c1 ?_
       |refine ko_sF c1 ?_
       |refine plan_as (pick_t c1) ?_
       |refine bool_true c1 ?_
       |refine ko_rT (gd_tt c1) ?_
       |refine ko_sF (gd_tt c1) ?_
       |refine plan_as (pick_t (gd_tt c1)) ?_
       |refine bool_true (gd_tt c1) ?_
       |refine ko_rT c2 ?_
       |refine ko_sF c2 ?_
       |refine plan_as (pick_t c2) ?_
       |refine bool_true c2 ?_
       |refine sym_drawn hS (by kernel_rfl) ?_); conv => whnf)
      refine bool_true (decide_eq_true (show ((cnF b i ++ cnB b i j).length + (0 + 1)) * 24 ≤ 140737488355328 by omega)) ?_
      conv => whnf
      refine bool_true (decide_eq_true (show (cnF b i ++ cnB b i j).length + (0 + 1) ≤ 9223372036854775807 by omega)) ?_
      conv => whnf
      refine bool_true (lenIs_en (cnF b i ++ cnB b i j)) ?_
      conv => whnf
      refine bool_true (decide_eq_true rfl) ?_
      conv => whnf
      have e1 : cnF b i ++ cnB b i (j + 1) = cnF b i ++ cnB b i j ++ [(Int.ofNat i, Int.ofNat j, 0)] := by rw [cnB, if_pos hc, List.append_assoc]
      have e2 := enC_app (cnF b i ++ cnB b i j) (Int.ofNat i, Int.ofNat j, 0) 0
      have e3 := enH_app (ty := 38) (cnF b i ++ cnB b i j) (Int.ofNat i, Int.ofNat j, 0)
      rw [← e1] at e2 e3
      exact ⟨j + 1, hj2, by show b.length - (j + 1) < b.length - j; omega, Nat.le_refl _, (by refine ⟨rfl, rfl, rfl, rfl, rfl, rfl, 1, rfl, ?_, ?_⟩ <;> repeat' (first | exact trivial | exact rfl | exact ⟨_, rfl, WkV.refl _⟩ | exact ⟨_, rfl, WkV.own _ _ _⟩ | exact Nat.zero_le _ | exact ⟨_, rfl, WkV.int hj1⟩ | exact ⟨_, rfl, WkV.eq e2⟩ | exact e3 | exact bdl_no lb | exact bd_enC _ (by decide) | exact Nat.le_of_ble_eq_true rfl | exact bdl_no (by assumption) | exact bdl_no (flat_no _) | exact bdl_no (ivs_no _) | exact bdl_no (svs_no _) | exact Nat.max_le.2 ⟨Nat.le_of_ble_eq_true rfl, bdl_no (ivs_no _)⟩ | exact Nat.max_le.2 ⟨Nat.le_of_ble_eq_true rfl, bdl_no (svs_no _)⟩ | apply And.intro))⟩
     ·have c2 : decide (b.getD j 0 < 0) = false := decide_eq_false p2
      have hc : ¬ (0 < b.getD i 0 ∧ b.getD j 0 < 0) := fun z => p2 z.2
      repeat ((first
       |refine plan_as (nthP gi) ?_
       |refine plan_as (nthP gj) ?_
       |refine ko_rT (inR_t hi2) ?_
       |refine ko_sF (inR_t hi2) ?_
       |refine plan_as (pick_t (inR_t hi2)) ?_
       |refine bool_true (inR_t hi2) ?_
       |refine ko_rT (inR_t hj2) ?_
       |refine ko_sF (inR_t hj2) ?_
       |refine plan_as (pick_t (inR_t hj2)) ?_
       |refine bool_true (inR_t hj2) ?_
       |refine ko_rT c1 ?_
       |refine ko_sF c1 ?_
       |refine plan_as (pick_t c1) ?_
       |refine bool_true c1 ?_
       |refine ko_rT (gd_tt c1) ?_
       |refine ko_sF (gd_tt c1) ?_
       |refine plan_as (pick_t (gd_tt c1)) ?_
       |refine bool_true (gd_tt c1) ?_
       |refine ko_sT c2 ?_
       |refine ko_rF c2 ?_
       |refine plan_as (pick_f c2) ?_
       |refine bool_false c2 ?_
       |refine sym_drawn hS (by kernel_rfl) ?_); conv => whnf)
      have e1 : cnF b i ++ cnB b i (j + 1) = cnF b i ++ cnB b i j := by rw [cnB, if_neg hc, List.append_nil]
      have e2 := (congrArg (fun l => enC l 0) e1).symm
      have e3 := (congrArg (fun l => AObj.chain l.length 3 38) e1).symm
      exact ⟨j + 1, hj2, by show b.length - (j + 1) < b.length - j; omega, Nat.le_refl _, (by refine ⟨rfl, rfl, rfl, rfl, rfl, rfl, 1, rfl, ?_, ?_⟩ <;> repeat' (first | exact trivial | exact rfl | exact ⟨_, rfl, WkV.refl _⟩ | exact ⟨_, rfl, WkV.own _ _ _⟩ | exact Nat.zero_le _ | exact ⟨_, rfl, WkV.int hj1⟩ | exact ⟨_, rfl, WkV.eq e2⟩ | exact e3 | exact bdl_no lb | exact bd_enC _ (by decide) | exact Nat.le_of_ble_eq_true rfl | exact bdl_no (by assumption) | exact bdl_no (flat_no _) | exact bdl_no (ivs_no _) | exact bdl_no (svs_no _) | exact Nat.max_le.2 ⟨Nat.le_of_ble_eq_true rfl, bdl_no (ivs_no _)⟩ | exact Nat.max_le.2 ⟨Nat.le_of_ble_eq_true rfl, bdl_no (svs_no _)⟩ | apply And.intro))⟩
    ·have c1 : decide (b.getD i 0 > 0) = false := decide_eq_false p1
     have hc : ¬ (0 < b.getD i 0 ∧ b.getD j 0 < 0) := fun z => p1 z.1
     repeat ((first
      |refine plan_as (nthP gi) ?_
      |refine ko_rT (inR_t hi2) ?_
      |refine ko_sF (inR_t hi2) ?_
      |refine plan_as (pick_t (inR_t hi2)) ?_
      |refine bool_true (inR_t hi2) ?_
      |refine ko_sT c1 ?_
      |refine ko_rF c1 ?_
      |refine plan_as (pick_f c1) ?_
      |refine bool_false c1 ?_
      |refine ko_sT (gd_tf c1) ?_
      |refine ko_rF (gd_tf c1) ?_
      |refine plan_as (pick_f (gd_tf c1)) ?_
      |refine bool_false (gd_tf c1) ?_
      |refine sym_drawn hS (by kernel_rfl) ?_); conv => whnf)
     have e1 : cnF b i ++ cnB b i (j + 1) = cnF b i ++ cnB b i j := by rw [cnB, if_neg hc, List.append_nil]
     have e2 := (congrArg (fun l => enC l 0) e1).symm
     have e3 := (congrArg (fun l => AObj.chain l.length 3 38) e1).symm
     exact ⟨j + 1, hj2, by show b.length - (j + 1) < b.length - j; omega, Nat.le_refl _, (by refine ⟨rfl, rfl, rfl, rfl, rfl, rfl, 1, rfl, ?_, ?_⟩ <;> repeat' (first | exact trivial | exact rfl | exact ⟨_, rfl, WkV.refl _⟩ | exact ⟨_, rfl, WkV.own _ _ _⟩ | exact Nat.zero_le _ | exact ⟨_, rfl, WkV.int hj1⟩ | exact ⟨_, rfl, WkV.eq e2⟩ | exact e3 | exact bdl_no lb | exact bd_enC _ (by decide) | exact Nat.le_of_ble_eq_true rfl | exact bdl_no (by assumption) | exact bdl_no (flat_no _) | exact bdl_no (ivs_no _) | exact bdl_no (svs_no _) | exact Nat.max_le.2 ⟨Nat.le_of_ble_eq_true rfl, bdl_no (ivs_no _)⟩ | exact Nat.max_le.2 ⟨Nat.le_of_ble_eq_true rfl, bdl_no (svs_no _)⟩ | apply And.intro))⟩
   ·refine bool_false (ltN_f hj2) ?_
    conv => whnf
    refine .inl (hK _ _ ?_)
    conv => whnf
    have ej : j = b.length := by omega
    rw [ej]
    exact ⟨(i + 1, enC (cnF b i ++ cnB b i b.length) 0, [.chain (cnF b i ++ cnB b i b.length).length 3 38]), [0], ⟨hi2, .inr ⟨by rw [cnF]; simp [he], by rw [cnF], by rw [cnF]⟩⟩, by show b.length - (i + 1) < b.length - i; omega, (by refine ⟨rfl, rfl, rfl, rfl, rfl, rfl, by decide, ?_, ?_, ?_, by kernel_rfl, ?_, ?_⟩ <;> repeat' (first | exact trivial | exact rfl | exact ⟨_, rfl, RnV.wk (WkV.refl _) (Nat.zero_le _)⟩ | exact ⟨_, rfl, RnV.wk (WkV.refl _) (Nat.le_of_ble_eq_true rfl)⟩ | exact TrIw.refl _ _ _ _ _ | exact OWk.same _ | exact OWk.loop _ _ _ _ _ _ _ (by repeat' (first | exact trivial | exact WkV.refl _ | exact WkV.unk _ | apply And.intro)) | exact Nat.zero_le _ | exact ⟨_, rfl, RnV.wk (WkV.int hi1) (Nat.zero_le _)⟩ | exact ⟨_, rfl, rnC (j := 0) (by decide) rfl rfl (lks_no _)⟩ | exact bdl_no lb | exact ⟨_, rfl, RnV.wk (WkV.refl _) (bd_nl b)⟩ | exact bd_enC _ (by decide) | exact Nat.le_of_ble_eq_true rfl | exact bdl_no (by assumption) | exact bdl_no (flat_no _) | exact bdl_no (ivs_no _) | exact bdl_no (svs_no _) | exact Nat.max_le.2 ⟨Nat.le_of_ble_eq_true rfl, bdl_no (ivs_no _)⟩ | exact Nat.max_le.2 ⟨Nat.le_of_ble_eq_true rfl, bdl_no (svs_no _)⟩ | apply And.intro))⟩
  ·refine bool_false (ltN_f hi2) ?_
   conv => whnf
   have ei : i = b.length := by omega
   rw [ei] at he ⊢
   clear hi hi2
   refine hK _ _ ?_
   conv => whnf
   have hC6 := cnL_6 hk5.2
   have nz := cn_ne he
   have lC := lks_no (cnL b)
   have pN := rsettled_nil hk5.2 hk5.1 (z := false) ⟨fun z => (nomatch z), fun z => absurd z nz⟩
   have lS : Lives noL ([] : List AV) := trivial
   refine sym_hideE fun K hKn => ?_
   refine sym_loopG hE hS (A := Nat) [0, 3] (fun n => [(6, nv n)]) (fun _ => []) (fun _ => []) (fun n => n ≤ (cnL b).length ∧ dfl b n 0) (fun n => (cnL b).length - n) 0 (Nat.le_of_ble_eq_true rfl) rfl (by refine ⟨rfl, rfl, rfl, rfl, rfl, rfl, 1, rfl, ?_, ?_⟩ <;> repeat' (first | exact trivial | exact rfl | exact ⟨_, rfl, WkV.refl _⟩ | exact ⟨_, rfl, WkV.own _ _ _⟩ | exact Nat.zero_le _ | exact bdl_no lb | exact bd_enC _ (by decide) | exact bdl_no lS | exact Nat.le_of_ble_eq_true rfl | exact bdl_no (by assumption) | exact bdl_no (flat_no _) | exact bdl_no (ivs_no _) | exact bdl_no (svs_no _) | exact Nat.max_le.2 ⟨Nat.le_of_ble_eq_true rfl, bdl_no (ivs_no _)⟩ | exact Nat.max_le.2 ⟨Nat.le_of_ble_eq_true rfl, bdl_no (svs_no _)⟩ | apply And.intro)) ⟨Nat.zero_le _, fun _ h => absurd h (Nat.not_lt_zero _), fun _ h => absurd h (Nat.not_lt_zero _)⟩ ?_
   intro n ⟨hn, hd0⟩ Q hQ
   obtain rfl : Q = 1 := hQ
   conv => whnf
   by_cases hn2 : n < (cnL b).length
   ·refine bool_true (ltN_t hn2) ?_
    conv => whnf
    have pL := lists9_pure n (by omega) 0 (cnL b).length (by omega)
    rw [Nat.zero_add, lV_ne (lsts_ne (Nat.le_of_lt hn2) 0)] at pL
    have hn1 : IntKind.i64.wrap (Int.ofNat n + 1) = Int.ofNat (n + 1) := wrapN (m := n + 1) (by omega)
    have lS := svs_no (lsts n 0 (cnL b).length)
    have hll := lsts_len (cnL b).length n 0
    have hP6 : 2 ^ (cnL b).length ≤ 2 ^ 6 := Nat.pow_le_pow_right (by decide) hC6
    refine sym_pure hC (pL) ?_
    conv => whnf
    refine sym_hideE fun K hKi => ?_
    refine sym_loopG hE hS (A := Nat) [0, 3, 6, 7] (fun i => [(8, nv i)]) (fun _ => []) (fun _ => []) (fun i => i ≤ (lsts n 0 (cnL b).length).length ∧ dfl b n i) (fun i => (lsts n 0 (cnL b).length).length - i) 0 (Nat.le_of_ble_eq_true rfl) rfl (by refine ⟨rfl, rfl, rfl, rfl, rfl, rfl, 1, rfl, ?_, ?_⟩ <;> repeat' (first | exact trivial | exact rfl | exact ⟨_, rfl, WkV.refl _⟩ | exact ⟨_, rfl, WkV.own _ _ _⟩ | exact Nat.zero_le _ | exact bdl_no lb | exact bd_enC _ (by decide) | exact bdl_no lS | exact Nat.le_of_ble_eq_true rfl | exact bdl_no (by assumption) | exact bdl_no (flat_no _) | exact bdl_no (ivs_no _) | exact bdl_no (svs_no _) | exact Nat.max_le.2 ⟨Nat.le_of_ble_eq_true rfl, bdl_no (ivs_no _)⟩ | exact Nat.max_le.2 ⟨Nat.le_of_ble_eq_true rfl, bdl_no (svs_no _)⟩ | apply And.intro)) ⟨Nat.zero_le _, hd0⟩ ?_
    intro i ⟨hi, hd⟩ Q hQ
    obtain rfl : Q = 1 := hQ
    conv => whnf
    by_cases hi2 : i < (lsts n 0 (cnL b).length).length
    ·refine bool_true (ltN_t hi2) ?_
     conv => whnf
     obtain ⟨x, hx⟩ : ∃ x, x = gs (lsts n 0 (cnL b).length) i := ⟨_, rfl⟩
     obtain ⟨x1, x2, x3⟩ := pk_mem (gs_mem _ hi2)
     rw [← hx] at x1 x2 x3
     refine sym_hideE fun K hK => ?_
     refine sym_loopR hE hS (A := Nat × AV × List AObj) [] (fun x hx => nomatch hx) [0, 3, 6, 7, 8] (fun (k, v, _) => [(9, v), (10, nv k)]) (fun _ => []) (fun a => a.2.2) (fun (k, v, ux) => k ≤ n ∧ grE 1 (pk (cnL b) (x.take k)) v ux) (fun (k, _) => n - k) (0, .nils, []) (Nat.le_of_ble_eq_true rfl) trivial rfl (by repeat' (first | exact trivial | exact Nat.zero_le _ | exact bdl_no lb | exact bdl_no lC | exact bd_enC _ (by decide) | exact bdl_no lS | exact Nat.le_of_ble_eq_true rfl | exact bdl_no (by assumption) | exact bdl_no (flat_no _) | exact bdl_no (ivs_no _) | exact bdl_no (svs_no _) | exact Nat.max_le.2 ⟨Nat.le_of_ble_eq_true rfl, bdl_no (ivs_no _)⟩ | exact Nat.max_le.2 ⟨Nat.le_of_ble_eq_true rfl, bdl_no (svs_no _)⟩ | apply And.intro)) (by refine ⟨rfl, rfl, rfl, rfl, rfl, rfl, by decide, ?_, ?_, ?_, by kernel_rfl, ?_, ?_⟩ <;> repeat' (first | exact trivial | exact rfl | exact ⟨_, rfl, RnV.wk (WkV.refl _) (Nat.zero_le _)⟩ | exact ⟨_, rfl, RnV.wk (WkV.refl _) (Nat.le_of_ble_eq_true rfl)⟩ | exact TrIw.refl _ _ _ _ _ | exact OWk.same _ | exact OWk.loop _ _ _ _ _ _ _ (by repeat' (first | exact trivial | exact WkV.refl _ | exact WkV.unk _ | apply And.intro)) | exact Nat.zero_le _ | exact bdl_no lb | exact ⟨_, rfl, RnV.wk (WkV.refl _) (bd_nl b)⟩ | exact ⟨_, rfl, RnV.wk (WkV.refl _) (bd_enC _ (by decide))⟩ | exact ⟨_, rfl, RnV.wk (WkV.refl _) (bd_sl _)⟩ | exact bd_enC _ (by decide) | exact bdl_no lS | exact Nat.le_of_ble_eq_true rfl | exact bdl_no (by assumption) | exact bdl_no (flat_no _) | exact bdl_no (ivs_no _) | exact bdl_no (svs_no _) | exact Nat.max_le.2 ⟨Nat.le_of_ble_eq_true rfl, bdl_no (ivs_no _)⟩ | exact Nat.max_le.2 ⟨Nat.le_of_ble_eq_true rfl, bdl_no (svs_no _)⟩ | apply And.intro)) ⟨Nat.zero_le _, .inl ⟨rfl, rfl, rfl⟩⟩ ?_
     rintro ⟨k, v, ux⟩ ⟨hk, ⟨he2, rfl, rfl⟩ | ⟨he2, rfl, rfl⟩⟩ Q hQ
     ·obtain rfl : Q = 1 := hQ
      conv => whnf
      by_cases hkn : k < n
      ·refine bool_true (ltN_t hkn) ?_
       conv => whnf
       have hkx : k < x.length := by omega
       have hq := asc_at x3 hkx
       have hqn : (gi x k).toNat < (cnL b).length := by omega
       have iq : inR (gi x k) (cnL b).length = true := by
        rw [show gi x k = Int.ofNat (gi x k).toNat by show gi x k = ((gi x k).toNat : Int); omega]
        exact inR_t hqn
       have hn1 := nth_svs1 (l := lsts n 0 (cnL b).length) hi2
       have hn2 := nth_ivs1 hkx
       have tq := tak_lk (cnL b) hqn
       have hk1 : IntKind.i64.wrap (Int.ofNat k + 1) = Int.ofNat (k + 1) := wrapN (m := k + 1) (by omega)
       rw [← hx, sv_ne (show x ≠ [] from fun z => by rw [z] at hkx; exact absurd hkx (Nat.not_lt_zero _))] at hn1
       have ht := take_pk (C := cnL b) hkx
       repeat ((first
        |refine plan_as (nthP hn1) ?_
        |refine plan_as (nthP hn2) ?_
        |refine plan_as (takP tq) ?_
        |refine ko_rT (inR_t hi2) ?_
        |refine ko_sF (inR_t hi2) ?_
        |refine plan_as (pick_t (inR_t hi2)) ?_
        |refine bool_true (inR_t hi2) ?_
        |refine ko_rT (inR_t hkx) ?_
        |refine ko_sF (inR_t hkx) ?_
        |refine plan_as (pick_t (inR_t hkx)) ?_
        |refine bool_true (inR_t hkx) ?_
        |refine ko_rT iq ?_
        |refine ko_sF iq ?_
        |refine plan_as (pick_t iq) ?_
        |refine bool_true iq ?_
        |refine sym_drawn hS (by kernel_rfl) ?_); conv => whnf)
       rw [he2] at ht
       exact ⟨(k + 1, enC [((gL (cnL b) (gi x k).toNat).1, (gL (cnL b) (gi x k).toNat).2.1, (gL (cnL b) (gi x k).toNat).2.2)] 1, [.chain 1 3 38]), [1], ⟨hkn, .inr ⟨by rw [ht]; simp, by rw [ht]; rfl, by rw [ht]; rfl⟩⟩, by show n - (k + 1) < n - k; omega, (by refine ⟨rfl, rfl, rfl, rfl, rfl, rfl, by decide, ?_, ?_, ?_, by kernel_rfl, ?_, ?_⟩ <;> repeat' (first | exact trivial | exact rfl | exact ⟨_, rfl, RnV.wk (WkV.refl _) (Nat.zero_le _)⟩ | exact ⟨_, rfl, RnV.wk (WkV.refl _) (Nat.le_of_ble_eq_true rfl)⟩ | exact TrIw.refl _ _ _ _ _ | exact OWk.same _ | exact OWk.loop _ _ _ _ _ _ _ (by repeat' (first | exact trivial | exact WkV.refl _ | exact WkV.unk _ | apply And.intro)) | exact Nat.zero_le _ | exact ⟨_, rfl, RnV.wk (WkV.int hk1) (Nat.zero_le _)⟩ | exact ⟨_, rfl, rnE0 (j := 0) (by decide) rfl rfl⟩ | exact bdl_no lb | exact ⟨_, rfl, RnV.wk (WkV.refl _) (bd_nl b)⟩ | exact ⟨_, rfl, RnV.wk (WkV.refl _) (bd_enC _ (by decide))⟩ | exact ⟨_, rfl, RnV.wk (WkV.refl _) (bd_sl _)⟩ | exact bd_enC _ (by decide) | exact bdl_no lS | exact Nat.le_of_ble_eq_true rfl | exact bdl_no (by assumption) | exact bdl_no (flat_no _) | exact bdl_no (ivs_no _) | exact bdl_no (svs_no _) | exact Nat.max_le.2 ⟨Nat.le_of_ble_eq_true rfl, bdl_no (ivs_no _)⟩ | exact Nat.max_le.2 ⟨Nat.le_of_ble_eq_true rfl, bdl_no (svs_no _)⟩ | apply And.intro))⟩
      ·refine bool_false (ltN_f hkn) ?_
       conv => whnf
       refine hK _ _ ?_
       conv => whnf
       have ek : n = 0 := by
        rw [List.take_of_length_le (by omega)] at he2
        have := congrArg List.length he2
        rw [pk_len, List.length_nil] at this
        omega
       have hx0 : x = [] := List.length_eq_zero_iff.1 (by omega)
       refine sym_pure hC (pN) ?_
       conv => whnf
       have hi1 : IntKind.i64.wrap (Int.ofNat i + 1) = Int.ofNat (i + 1) := wrapN (m := i + 1) (by omega)
       exact ⟨i + 1, ⟨hi2, hd.1, fun j hj => by
        by_cases e : j = i
        ·rw [e, ← hx, hx0]; exact slv_nil1 nz
        ·exact hd.2 j (by omega)⟩, by omega, Nat.le_refl _, (by refine ⟨rfl, rfl, rfl, rfl, rfl, rfl, 1, rfl, ?_, ?_⟩ <;> repeat' (first | exact trivial | exact rfl | exact ⟨_, rfl, WkV.refl _⟩ | exact ⟨_, rfl, WkV.own _ _ _⟩ | exact Nat.zero_le _ | exact ⟨_, rfl, WkV.int hi1⟩ | exact bdl_no lb | exact bd_enC _ (by decide) | exact bdl_no lS | exact Nat.le_of_ble_eq_true rfl | exact bdl_no (by assumption) | exact bdl_no (flat_no _) | exact bdl_no (ivs_no _) | exact bdl_no (svs_no _) | exact Nat.max_le.2 ⟨Nat.le_of_ble_eq_true rfl, bdl_no (ivs_no _)⟩ | exact Nat.max_le.2 ⟨Nat.le_of_ble_eq_true rfl, bdl_no (svs_no _)⟩ | apply And.intro))⟩
     ·obtain rfl : Q = 2 := hQ
      conv => whnf
      have hMl : (pk (cnL b) (x.take k)).length ≤ 6 := by rw [pk_len]; have := List.length_take_le k x; omega
      by_cases hkn : k < n
      ·refine bool_true (ltN_t hkn) ?_
       conv => whnf
       have hkx : k < x.length := by omega
       have hq := asc_at x3 hkx
       have hqn : (gi x k).toNat < (cnL b).length := by omega
       have iq : inR (gi x k) (cnL b).length = true := by
        rw [show gi x k = Int.ofNat (gi x k).toNat by show gi x k = ((gi x k).toNat : Int); omega]
        exact inR_t hqn
       have hn1 := nth_svs1 (l := lsts n 0 (cnL b).length) hi2
       have hn2 := nth_ivs1 hkx
       have tq := tak_lk (cnL b) hqn
       have hk1 : IntKind.i64.wrap (Int.ofNat k + 1) = Int.ofNat (k + 1) := wrapN (m := k + 1) (by omega)
       rw [← hx, sv_ne (show x ≠ [] from fun z => by rw [z] at hkx; exact absurd hkx (Nat.not_lt_zero _))] at hn1
       have ht := take_pk (C := cnL b) hkx
       repeat ((first
        |refine plan_as (nthP hn1) ?_
        |refine plan_as (nthP hn2) ?_
        |refine plan_as (takP tq) ?_
        |refine ko_rT (inR_t hi2) ?_
        |refine ko_sF (inR_t hi2) ?_
        |refine plan_as (pick_t (inR_t hi2)) ?_
        |refine bool_true (inR_t hi2) ?_
        |refine ko_rT (inR_t hkx) ?_
        |refine ko_sF (inR_t hkx) ?_
        |refine plan_as (pick_t (inR_t hkx)) ?_
        |refine bool_true (inR_t hkx) ?_
        |refine ko_rT iq ?_
        |refine ko_sF iq ?_
        |refine plan_as (pick_t iq) ?_
        |refine bool_true iq ?_
        |refine sym_drawn hS (by kernel_rfl) ?_); conv => whnf)
       refine bool_true (decide_eq_true (show ((pk (cnL b) (x.take k)).length + (0 + 1)) * 24 ≤ 140737488355328 by omega)) ?_
       conv => whnf
       refine bool_true (decide_eq_true (show (pk (cnL b) (x.take k)).length + (0 + 1) ≤ 9223372036854775807 by omega)) ?_
       conv => whnf
       refine bool_true (lenIs_en (pk (cnL b) (x.take k))) ?_
       conv => whnf
       refine bool_true (decide_eq_true rfl) ?_
       conv => whnf
       exact ⟨(k + 1, enC (pk (cnL b) (x.take k) ++ [((gL (cnL b) (gi x k).toNat).1, (gL (cnL b) (gi x k).toNat).2.1, (gL (cnL b) (gi x k).toNat).2.2)]) 1, [.chain (pk (cnL b) (x.take k) ++ [((gL (cnL b) (gi x k).toNat).1, (gL (cnL b) (gi x k).toNat).2.1, (gL (cnL b) (gi x k).toNat).2.2)]).length 3 38]), [1], ⟨hkn, .inr ⟨by rw [ht]; simp, by rw [ht], by rw [ht]⟩⟩, by show n - (k + 1) < n - k; omega, (by refine ⟨rfl, rfl, rfl, rfl, rfl, rfl, by decide, ?_, ?_, ?_, by kernel_rfl, ?_, ?_⟩ <;> repeat' (first | exact trivial | exact rfl | exact ⟨_, rfl, RnV.wk (WkV.refl _) (Nat.zero_le _)⟩ | exact ⟨_, rfl, RnV.wk (WkV.refl _) (Nat.le_of_ble_eq_true rfl)⟩ | exact TrIw.refl _ _ _ _ _ | exact OWk.same _ | exact OWk.loop _ _ _ _ _ _ _ (by repeat' (first | exact trivial | exact WkV.refl _ | exact WkV.unk _ | apply And.intro)) | exact Nat.zero_le _ | exact ⟨_, rfl, RnV.wk (WkV.int hk1) (Nat.zero_le _)⟩ | exact ⟨_, rfl, rnE (j := 0) (by decide) rfl rfl⟩ | exact enH_app _ _ | exact bdl_no lb | exact ⟨_, rfl, RnV.wk (WkV.refl _) (bd_nl b)⟩ | exact ⟨_, rfl, RnV.wk (WkV.refl _) (bd_enC _ (by decide))⟩ | exact ⟨_, rfl, RnV.wk (WkV.refl _) (bd_sl _)⟩ | exact bd_enC _ (by decide) | exact bdl_no lS | exact Nat.le_of_ble_eq_true rfl | exact bdl_no (by assumption) | exact bdl_no (flat_no _) | exact bdl_no (ivs_no _) | exact bdl_no (svs_no _) | exact Nat.max_le.2 ⟨Nat.le_of_ble_eq_true rfl, bdl_no (ivs_no _)⟩ | exact Nat.max_le.2 ⟨Nat.le_of_ble_eq_true rfl, bdl_no (svs_no _)⟩ | apply And.intro))⟩
      ·refine bool_false (ltN_f hkn) ?_
       conv => whnf
       refine hK _ _ ?_
       conv => whnf
       have hn0 : 1 ≤ n := Nat.pos_of_ne_zero fun z => he2 (by
        have : x = [] := List.length_eq_zero_iff.1 (by omega)
        rw [this, List.take_nil]; rfl)
       rw [List.take_of_length_le (by omega)]
       have hsub : (pk (cnL b) x).Sublist (cnL b) := x1
       have hM1 : 1 ≤ (pk (cnL b) x).length := by rw [pk_len]; omega
       have hM8 : (pk (cnL b) x).length ≤ 8 := by have := hsub.length_le; omega
       cases hv : slv b (pk (cnL b) x) with
       |none =>
        refine sym_pureW hC (pure_wkl (wkl_be b (pk (cnL b) x) _) (rsettled_none hk5.2 hk5.1 hM8 hM1 (sub_z hsub) (sub_r hsub) hbd (sub_bip hsub) hv)) ?_
        conv => whnf
        have hi1 : IntKind.i64.wrap (Int.ofNat i + 1) = Int.ofNat (i + 1) := wrapN (m := i + 1) (by omega)
        exact ⟨i + 1, ⟨hi2, hd.1, fun j hj => by
         by_cases e : j = i
         ·rw [e, ← hx]; exact hv
         ·exact hd.2 j (by omega)⟩, by omega, Nat.le_refl _, (by refine ⟨rfl, rfl, rfl, rfl, rfl, rfl, 1, rfl, ?_, ?_⟩ <;> repeat' (first | exact trivial | exact rfl | exact ⟨_, rfl, WkV.refl _⟩ | exact ⟨_, rfl, WkV.own _ _ _⟩ | exact Nat.zero_le _ | exact ⟨_, rfl, WkV.int hi1⟩ | exact bdl_no lb | exact bd_enC _ (by decide) | exact bdl_no lS | exact Nat.le_of_ble_eq_true rfl | exact bdl_no (by assumption) | exact bdl_no (flat_no _) | exact bdl_no (ivs_no _) | exact bdl_no (svs_no _) | exact Nat.max_le.2 ⟨Nat.le_of_ble_eq_true rfl, bdl_no (ivs_no _)⟩ | exact Nat.max_le.2 ⟨Nat.le_of_ble_eq_true rfl, bdl_no (svs_no _)⟩ | apply And.intro))⟩
       |some X =>
        have hbs := dfl_best hd hi2 (by rw [← hx]; exact hv)
        refine sym_pureW hC (pure_wkl (wkl_be b (pk (cnL b) x) _) (rsettled_some hk5.2 hk5.1 hM8 hM1 (sub_z hsub) (sub_r hsub) hbd (sub_bip hsub) hv)) ?_
        conv => whnf
        refine hKi _ _ ?_
        conv => whnf
        refine hKn _ _ ?_
        conv => whnf
        rw [hR.uniq hbs]
        have rne : X ≠ [] := fun z => by
         have := (slv_sol hv).2.1.1
         rw [z, List.length_nil] at this
         omega
        show ∃ u, _
        rw [enV, if_neg rne]
        exact ⟨_, rfl, Wk.refl _⟩
    ·refine bool_false (ltN_f hi2) ?_
     conv => whnf
     refine .inl (hKi _ _ ?_)
     conv => whnf
     exact ⟨n + 1, ⟨hn2, fun n' hn' y hy => by
      by_cases e : n' = n
      ·rw [e] at hy
       obtain ⟨j, j1, j2⟩ := gs_ex hy
       rw [← j2]
       exact hd.2 j (by omega)
      ·exact hd.1 n' (by omega) y hy, fun _ h => absurd h (Nat.not_lt_zero _)⟩, by omega, Nat.le_refl _, (by refine ⟨rfl, rfl, rfl, rfl, rfl, rfl, 1, rfl, ?_, ?_⟩ <;> repeat' (first | exact trivial | exact rfl | exact ⟨_, rfl, WkV.refl _⟩ | exact ⟨_, rfl, WkV.own _ _ _⟩ | exact Nat.zero_le _ | exact ⟨_, rfl, WkV.int hn1⟩ | exact bdl_no lb | exact bd_enC _ (by decide) | exact bdl_no lS | exact Nat.le_of_ble_eq_true rfl | exact bdl_no (by assumption) | exact bdl_no (flat_no _) | exact bdl_no (ivs_no _) | exact bdl_no (svs_no _) | exact Nat.max_le.2 ⟨Nat.le_of_ble_eq_true rfl, bdl_no (ivs_no _)⟩ | exact Nat.max_le.2 ⟨Nat.le_of_ble_eq_true rfl, bdl_no (svs_no _)⟩ | apply And.intro))⟩
   ·refine bool_false (ltN_f hn2) ?_
    conv => whnf
    refine .inl (hKn _ _ ?_)
    conv => whnf
    have en : n = (cnL b).length := by omega
    rw [en] at hd0
    have hv := dfl_all hd0 hR
    have hsub : (cnL b).Sublist (cnL b) := List.Sublist.refl _
    have hM1 : 1 ≤ (cnL b).length := Nat.pos_of_ne_zero fun z => he (List.length_eq_zero_iff.1 z)
    refine sym_pureW hC (pure_wkl (wkl_be b (cnL b) _) (rsettled_some hk5.2 hk5.1 (by omega) hM1 (sub_z hsub) (sub_r hsub) hbd (sub_bip hsub) hv)) ?_
    conv => whnf
    have rne : R ≠ [] := fun z => by
     have := (slv_sol hv).2.1.1
     rw [z, List.length_nil] at this
     omega
    show ∃ u, _
    rw [enV, if_neg rne]
    exact ⟨_, rfl, Wk.refl _⟩
end
end Go.Abs.Seat
