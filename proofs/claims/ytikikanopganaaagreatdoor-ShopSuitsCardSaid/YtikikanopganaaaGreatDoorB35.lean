/-
  A piece with changes; whether they suit, as the law tells it.
-/
import Derived.Test.YtikikanopganaaaGreatDoorB34
/-! A piece with changes; whether they suit, as the law tells it. -/
namespace Go.Abs.Seat
noncomputable section
open Go Go.Abs Go.Proofs.Tryz
set_option maxRecDepth 100000
set_option maxHeartbeats 40000000
attribute [local irreducible] IntKind.wrap pEq

def chA (N : List Lk) : List Lk → List Lk
 | [] => N
 |c :: r => chA (chX N c) r
theorem chA_len : ∀ (l N : List Lk), (chA N l).length = N.length
 | [], _ => rfl
 |c :: r, N => by rw [chA, chA_len r, chN_len]
theorem chA_pc {H : List Nat} : ∀ {l N : List Lk}, pcN N H → (∀ x, x ∈ l → cgK N x) → pcN (chA N l) H
 | [], _, h, _ => h
 |c :: r, N, h, hl => by
  rw [chA]
  exact chA_pc ((hl c (List.mem_cons_self ..)).pc h) fun x hx => (hl x (List.mem_cons_of_mem _ hx)).of
abbrev pcC (N : List Lk) (H : List Nat) : AObj := .cells (.node (nkA N) (.node (nl (zl H)) .nil .nil) .nil) 2 34
def gV (v : AV) (l : List Lk) : Prop := v = nkA l ∨ v = .nils ∧ l = []
theorem gV.no {v : AV} {l : List Lk} (h : gV v l) : Live noL v := by
 rcases h with rfl | ⟨rfl, _⟩
 ·exact ⟨lks_no _, fun _ h => nomatch h⟩
 ·trivial
theorem lchanged_pure {N : List Lk} {H : List Nat} (h5 : N.length ≤ 5) {v : AV} {l : List Lk} (hv : gV v l) (hl : ∀ x, x ∈ l → x.1 < N.length) (h2 : l.length ≤ 2) : Pure prog 116 [.agg [nkA N, nl (zl H)], v] (.agg [nkA (chA N l), nl (zl H)]) := by
 have lN := lks_no (cL N)
 have lM := ivs_no (zl H)
 have lA := lks_no (cL (chA N l))
 rcases hv with rfl | ⟨rfl, rfl⟩
 rotate_left
 ·refine pure_sym hE rfl (by repeat' (first | exact trivial | assumption | exact flat_no _ | exact (fun _ h => nomatch h) | apply And.intro)) (by repeat' (first | exact trivial | assumption | exact flat_no _ | exact (fun _ h => nomatch h) | apply And.intro)) fun S q pc hS hq hC hE => ?_
  conv => whnf
  refine sym_unroll hE hS ?_
  conv => whnf
  exact ⟨_, rfl, Wk.refl _⟩
 ·have ll := lks_no (cL l)
  refine pure_sym hE rfl (by repeat' (first | exact trivial | assumption | exact flat_no _ | exact (fun _ h => nomatch h) | apply And.intro)) (by repeat' (first | exact trivial | assumption | exact flat_no _ | exact (fun _ h => nomatch h) | apply And.intro)) fun S q pc hS hq hC hE => ?_
  conv => whnf
  refine sym_loopG hE hS (A := Nat × List Lk) [1, 2, 4] (fun (i, _) => [(5, nv i)]) (fun (_, M) => [(0, pcC M H)]) (fun _ => []) (fun (i, M) => i ≤ l.length ∧ M.length = N.length ∧ chA M (l.drop i) = chA N l) (fun (i, _) => l.length - i) (0, N) (Nat.le_of_ble_eq_true rfl) rfl (by refine ⟨rfl, rfl, rfl, rfl, rfl, rfl, 2, rfl, ?_, ?_⟩ <;> repeat' (first | exact trivial | exact rfl | exact ⟨_, rfl, WkV.refl _⟩ | exact ⟨_, rfl, WkV.own _ _ _⟩ | exact Nat.zero_le _ | exact bdl_no lN | exact bdl_no lM | exact bdl_no ll | exact bdl_no (lks_no _) | exact Nat.le_of_ble_eq_true rfl | exact bdl_no (by assumption) | exact bdl_no (flat_no _) | exact bdl_no (ivs_no _) | exact bdl_no (svs_no _) | exact Nat.max_le.2 ⟨Nat.le_of_ble_eq_true rfl, bdl_no (ivs_no _)⟩ | exact Nat.max_le.2 ⟨Nat.le_of_ble_eq_true rfl, bdl_no (svs_no _)⟩ | apply And.intro)) ⟨Nat.zero_le _, rfl, rfl⟩ ?_
  rintro ⟨i, M⟩ ⟨hi, hm, he⟩ Q hQ
  obtain rfl : Q = 2 := hQ
  conv => whnf
  by_cases hi2 : i < l.length
  ·have pcg := rChanged_pure (N := M) (by omega) (zl H) (i := (gN l i).1) (by have := hl _ (gN_mem l hi2); omega) (gN l i).2.1 (gN l i).2.2
   have lM2 := lks_no (cL M)
   have lM3 := lks_no (cL (chX M (gN l i)))
   rw [drop_gN l hi2, chA] at he
   refine bool_true (ltN_t hi2) ?_
   conv => whnf
   repeat ((first
    |refine plan_as (takP (tak_nk l hi2)) ?_
    |refine ko_rT (inR_t hi2) ?_
    |refine ko_sF (inR_t hi2) ?_
    |refine plan_as (pick_t (inR_t hi2)) ?_
    |refine bool_true (inR_t hi2) ?_
    |refine sym_pure hC (pcg) ?_
    |refine sym_drawn hS (by kernel_rfl) ?_); conv => whnf)
   exact ⟨(i + 1, chX M (gN l i)), ⟨hi2, by show (chN M _ _ _).length = _; rw [chN_len]; exact hm, he⟩, by show l.length - (i + 1) < l.length - i; omega, Nat.le_refl _, (by refine ⟨rfl, rfl, rfl, rfl, rfl, rfl, 2, rfl, ?_, ?_⟩ <;> repeat' (first | exact trivial | exact rfl | exact ⟨_, rfl, WkV.refl _⟩ | exact ⟨_, rfl, WkV.own _ _ _⟩ | exact Nat.zero_le _ | exact ⟨_, rfl, WkV.int (wrapN (m := i + 1) (by omega))⟩ | exact bdl_no lN | exact bdl_no lM | exact bdl_no ll | exact bdl_no (lks_no _) | exact Nat.le_of_ble_eq_true rfl | exact bdl_no (by assumption) | exact bdl_no (flat_no _) | exact bdl_no (ivs_no _) | exact bdl_no (svs_no _) | exact Nat.max_le.2 ⟨Nat.le_of_ble_eq_true rfl, bdl_no (ivs_no _)⟩ | exact Nat.max_le.2 ⟨Nat.le_of_ble_eq_true rfl, bdl_no (svs_no _)⟩ | apply And.intro))⟩
  ·refine bool_false (ltN_f hi2) ?_
   conv => whnf
   refine .inl ?_
   conv => whnf
   rw [List.drop_eq_nil_of_le (by omega), chA] at he
   rw [← he]
   exact ⟨_, rfl, Wk.refl _⟩
theorem lsuits_pure {N : List Lk} {H : List Nat} (h : pcN N H) {v : AV} {l : List Lk} (hv : gV v l) (hl : ∀ x, x ∈ l → cgK N x) (h2 : l.length ≤ 2) {hand n d : Nat} (hh : hand < H.length) (hn : n ≤ 50000) (hd : 1 ≤ d ∧ d ≤ 50000) :
  Pure prog 53 [.agg [nkA N, nl (zl H)], v, nv hand, fv (Int.ofNat n) (Int.ofNat d)] (.bool (decide (suP N (chA N l) H hand (n, d)))) := by
 have hX := chA_pc h hl
 have eN := chA_len l N
 have p1 := sRates_yes h
 have p2 := lchanged_pure (H := H) h.l5 hv (fun x hx => (hl x hx).i) h2
 have p3 := sRates_yes hX
 have lc := hv.no
 generalize chA N l = N2 at *
 have lN := lks_no (cL N)
 have lN2 := lks_no (cL N2)
 have lM := ivs_no (zl H)
 have lR := flat_no (zp (rdL N (N.length + 1)))
 have lR2 := flat_no (zp (rdL N2 (N2.length + 1)))
 have lS := bls_no (snL N (N.length + 1))
 have lS2 := bls_no (snL N2 (N2.length + 1))
 have hz := zl_len H
 have h4 := h.h4
 have h5 := h.l5
 have z1 : (zp (rdL N (N.length + 1))).length = N.length + 1 := by rw [zp_len, rdL_len]
 have z2 : (zp (rdL N2 (N2.length + 1))).length = N2.length + 1 := by rw [zp_len, rdL_len]
 have hhz : hand < (zl H).length := by omega
 have g0 : nth (ivs (zl H)) (hand * 1) = some (nv (gn H hand)) := by rw [nth_ivs1 hhz, gi_zl H hh]
 have hg := hX.hd _ (gn_mem H hh)
 have tF := tak_zp (rdL N2 (N2.length + 1)) (i := gn H hand) (by rw [rdL_len]; omega)
 rw [rdL_get N2 (by omega)] at tF
 have iF : inR (Int.ofNat (gn H hand)) (zp (rdL N2 (N2.length + 1))).length = true := inR_t (by omega)
 have pR := rReduced_pure n d (by omega) (by omega) hd.1
 have pR : Pure prog 117 [fv (Int.ofNat n) (Int.ofNat d)] (fv (Int.ofNat (redF n d).1) (Int.ofNat (redF n d).2)) := pR
 have e0 := rsm_to hX.ok (n := n) (d := d) hg.2 hd.1
 have c1 : (((zp (rdL N (N.length + 1))).length : Int) != IntKind.i64.wrap ((N.length : Int) + 1)) = false := by rw [z1, show IntKind.i64.wrap ((N.length : Int) + 1) = Int.ofNat (N.length + 1) from wrapN (m := N.length + 1) (by omega)]; exact bne_self_eq_false _
 have c2 : (((zp (rdL N2 (N2.length + 1))).length : Int) != ((zp (rdL N (N.length + 1))).length : Int)) = false := by rw [z1, z2, eN]; exact bne_self_eq_false _
 have tE : ∀ i, i < H.length → takeN 2 (dropN (gn H i * 2) (flat (zp (rdL N (N.length + 1))))) = some [nv (rdA N (gn H i)).1, nv (rdA N (gn H i)).2] ∧ takeN 2 (dropN (gn H i * 2) (flat (zp (rdL N2 (N2.length + 1))))) = some [nv (rdA N2 (gn H i)).1, nv (rdA N2 (gn H i)).2] ∧ inR (Int.ofNat (gn H i)) (zp (rdL N (N.length + 1))).length = true ∧ inR (Int.ofNat (gn H i)) (zp (rdL N2 (N2.length + 1))).length = true := fun i hi => by
  have k := h.hd _ (gn_mem H hi)
  refine ⟨?_, ?_, inR_t (by omega), inR_t (by omega)⟩
  ·rw [tak_zp _ (by rw [rdL_len]; omega), rdL_get N (by omega)]
  ·rw [tak_zp _ (by rw [rdL_len]; omega), rdL_get N2 (by omega)]
 generalize hR : zp (rdL N (N.length + 1)) = R at *
 generalize hR2 : zp (rdL N2 (N2.length + 1)) = R2 at *
 generalize snL N (N.length + 1) = S1 at *
 generalize snL N2 (N2.length + 1) = S2 at *
 rcases hv with rfl | ⟨rfl, rfl⟩
 ·have lc : Lives noL (lks (cL l)) := lks_no _
  refine pure_sym hE rfl (by repeat' (first | exact trivial | assumption | exact flat_no _ | exact (fun _ h => nomatch h) | apply And.intro)) (by repeat' (first | exact trivial | assumption | exact flat_no _ | exact (fun _ h => nomatch h) | apply And.intro)) fun S q pc hS hq hC hE => ?_
  conv => whnf
  repeat ((first
   |refine sym_pure hC (p1) ?_
   |refine sym_pure hC (p2) ?_
   |refine sym_pure hC (p3) ?_
   |refine sym_drawn hS (by kernel_rfl) ?_
   |refine sym_eq hq true (eqBool_same _ _) ?_
   |rw [beq_self_eq_true]
   |rw [bne_self_eq_false]); conv => whnf)
  repeat ((first
   |refine ko_sT c1 ?_
   |refine ko_rF c1 ?_
   |refine plan_as (pick_f c1) ?_
   |refine bool_false c1 ?_
   |refine ko_sT c2 ?_
   |refine ko_rF c2 ?_
   |refine plan_as (pick_f c2) ?_
   |refine bool_false c2 ?_
   |refine sym_drawn hS (by kernel_rfl) ?_); conv => whnf)
  refine sym_loop hE hS (A := Nat) [2, 4, 7, 9, 12] (fun i => [(15, nv i)]) (fun _ => []) (fun i => i ≤ H.length ∧ othL N N2 H hand i) (fun i => H.length - i) 0 rfl rfl (by refine ⟨rfl, rfl, rfl, rfl, ?_, ?_⟩ <;> repeat' (first | exact trivial | exact rfl | exact Nat.zero_le _ | exact bdl_no lN | exact bdl_no lM | exact bdl_no lR | exact bdl_no lR2 | exact Nat.le_of_ble_eq_true rfl | exact bdl_no (by assumption) | exact bdl_no (flat_no _) | exact bdl_no (ivs_no _) | exact Nat.max_le.2 ⟨Nat.le_of_ble_eq_true rfl, bdl_no (ivs_no _)⟩ | apply And.intro)) ⟨Nat.zero_le _, fun _ h => absurd h (Nat.not_lt_zero _)⟩ ?_
  intro i ⟨hi, ho⟩
  have hi1 : i < H.length → IntKind.i64.wrap (Int.ofNat i + 1) = Int.ofNat (i + 1) := fun h => wrapN (m := i + 1) (by omega)
  conv => whnf
  by_cases hi2 : i < H.length
  ·have hiz : i < (zl H).length := by omega
   refine bool_true (ltN_t hiz) ?_
   conv => whnf
   have g1 : nth (ivs (zl H)) (i * 1) = some (nv (gn H i)) := by rw [nth_ivs1 hiz, gi_zl H hi2]
   have k1 := h.hd _ (gn_mem H hi2)
   have k2 := hX.hd _ (gn_mem H hi2)
   have e3 := rsm_red h.ok hX.ok k1.2 k2.2
   have tt := tE i hi2
   by_cases ei : i = hand
   ·have c3 : (Int.ofNat i != Int.ofNat hand) = false := by rw [ei]; exact bne_self_eq_false _
    repeat ((first
     |refine ko_sT c3 ?_
     |refine ko_rF c3 ?_
     |refine plan_as (pick_f c3) ?_
     |refine bool_false c3 ?_
     |refine ko_sT (gd_tf c3) ?_
     |refine ko_rF (gd_tf c3) ?_
     |refine plan_as (pick_f (gd_tf c3)) ?_
     |refine bool_false (gd_tf c3) ?_
     |refine sym_drawn hS (by kernel_rfl) ?_); conv => whnf)
    exact ⟨i + 1, ⟨hi2, fun j hj hn => by
     by_cases e : j = i
     ·exact absurd (e.trans ei) hn
     ·exact ho j (by omega) hn⟩, by omega, (by refine ⟨rfl, rfl, rfl, rfl, ?_, ?_⟩ <;> repeat' (first | exact trivial | exact rfl | exact Nat.zero_le _ | exact congrArg (fun z => some (AV.int .i64 z)) (hi1 hi2) | exact bdl_no lN | exact bdl_no lM | exact bdl_no lR | exact bdl_no lR2 | exact Nat.le_of_ble_eq_true rfl | exact bdl_no (by assumption) | exact bdl_no (flat_no _) | exact bdl_no (ivs_no _) | exact Nat.max_le.2 ⟨Nat.le_of_ble_eq_true rfl, bdl_no (ivs_no _)⟩ | apply And.intro))⟩
   ·have c3 : (Int.ofNat i != Int.ofNat hand) = true := bne_iff_ne.2 fun z => ei (Int.ofNat.inj z)
    by_cases hs : rsm (rtA N (gn H i)) (rtA N2 (gn H i))
    ·have hq2 : ∀ cst, q0 36 cst (fv (rdA N (gn H i)).1 (rdA N (gn H i)).2) (fv (rdA N2 (gn H i)).1 (rdA N2 (gn H i)).2) = some true := fun cst => by rw [e3.2 hs]; exact eqQ_same (.inl rfl) cst _ _
     repeat ((first
      |refine plan_as (nthP g1) ?_
      |refine plan_as (takP tt.1) ?_
      |refine plan_as (takP tt.2.1) ?_
      |refine ko_rT c3 ?_
      |refine ko_sF c3 ?_
      |refine plan_as (pick_t c3) ?_
      |refine bool_true c3 ?_
      |refine ko_rT (gd_tt c3) ?_
      |refine ko_sF (gd_tt c3) ?_
      |refine plan_as (pick_t (gd_tt c3)) ?_
      |refine bool_true (gd_tt c3) ?_
      |refine ko_rT (inR_t hiz) ?_
      |refine ko_sF (inR_t hiz) ?_
      |refine plan_as (pick_t (inR_t hiz)) ?_
      |refine bool_true (inR_t hiz) ?_
      |refine ko_rT (tt.2.2.1) ?_
      |refine ko_sF (tt.2.2.1) ?_
      |refine plan_as (pick_t (tt.2.2.1)) ?_
      |refine bool_true (tt.2.2.1) ?_
      |refine ko_sT (tt.2.2.1) ?_
      |refine ko_rF (tt.2.2.1) ?_
      |refine plan_as (pick_f (tt.2.2.1)) ?_
      |refine bool_false (tt.2.2.1) ?_
      |refine ko_rT (tt.2.2.2) ?_
      |refine ko_sF (tt.2.2.2) ?_
      |refine plan_as (pick_t (tt.2.2.2)) ?_
      |refine bool_true (tt.2.2.2) ?_
      |refine ko_sT (tt.2.2.2) ?_
      |refine ko_rF (tt.2.2.2) ?_
      |refine plan_as (pick_f (tt.2.2.2)) ?_
      |refine bool_false (tt.2.2.2) ?_
      |refine sym_drawn hS (by kernel_rfl) ?_); conv => whnf)
     refine sym_eq hq true (hq2 _) ?_
     conv => whnf
     repeat ((first
      |refine ko_rT c3 ?_
      |refine ko_sF c3 ?_
      |refine plan_as (pick_t c3) ?_
      |refine bool_true c3 ?_
      |refine sym_drawn hS (by kernel_rfl) ?_); conv => whnf)
     exact ⟨i + 1, ⟨hi2, fun j hj hn => by
      by_cases e : j = i
      ·subst e; exact hs
      ·exact ho j (by omega) hn⟩, by omega, (by refine ⟨rfl, rfl, rfl, rfl, ?_, ?_⟩ <;> repeat' (first | exact trivial | exact rfl | exact Nat.zero_le _ | exact congrArg (fun z => some (AV.int .i64 z)) (hi1 hi2) | exact bdl_no lN | exact bdl_no lM | exact bdl_no lR | exact bdl_no lR2 | exact Nat.le_of_ble_eq_true rfl | exact bdl_no (by assumption) | exact bdl_no (flat_no _) | exact bdl_no (ivs_no _) | exact Nat.max_le.2 ⟨Nat.le_of_ble_eq_true rfl, bdl_no (ivs_no _)⟩ | apply And.intro))⟩
    ·rw [decide_eq_false fun z : suP N N2 H hand (n, d) => hs ((suP_iff.1 z).2 i hi2 ei)]
     repeat ((first
      |refine plan_as (nthP g1) ?_
      |refine plan_as (takP tt.1) ?_
      |refine plan_as (takP tt.2.1) ?_
      |refine ko_rT c3 ?_
      |refine ko_sF c3 ?_
      |refine plan_as (pick_t c3) ?_
      |refine bool_true c3 ?_
      |refine ko_rT (gd_tt c3) ?_
      |refine ko_sF (gd_tt c3) ?_
      |refine plan_as (pick_t (gd_tt c3)) ?_
      |refine bool_true (gd_tt c3) ?_
      |refine ko_rT (inR_t hiz) ?_
      |refine ko_sF (inR_t hiz) ?_
      |refine plan_as (pick_t (inR_t hiz)) ?_
      |refine bool_true (inR_t hiz) ?_
      |refine ko_rT (tt.2.2.1) ?_
      |refine ko_sF (tt.2.2.1) ?_
      |refine plan_as (pick_t (tt.2.2.1)) ?_
      |refine bool_true (tt.2.2.1) ?_
      |refine ko_sT (tt.2.2.1) ?_
      |refine ko_rF (tt.2.2.1) ?_
      |refine plan_as (pick_f (tt.2.2.1)) ?_
      |refine bool_false (tt.2.2.1) ?_
      |refine ko_rT (tt.2.2.2) ?_
      |refine ko_sF (tt.2.2.2) ?_
      |refine plan_as (pick_t (tt.2.2.2)) ?_
      |refine bool_true (tt.2.2.2) ?_
      |refine ko_sT (tt.2.2.2) ?_
      |refine ko_rF (tt.2.2.2) ?_
      |refine plan_as (pick_f (tt.2.2.2)) ?_
      |refine bool_false (tt.2.2.2) ?_
      |refine sym_drawn hS (by kernel_rfl) ?_); conv => whnf)
     refine sym_eq hq false (eqQ_ne (.inl rfl) _ _ _ _ _ fun z => hs (e3.1 (Prod.ext (Int.ofNat.inj z.1) (Int.ofNat.inj z.2)))) ?_
     conv => whnf
     repeat ((first
      |refine ko_rT c3 ?_
      |refine ko_sF c3 ?_
      |refine plan_as (pick_t c3) ?_
      |refine bool_true c3 ?_
      |refine sym_drawn hS (by kernel_rfl) ?_); conv => whnf)
     exact ⟨_, rfl, Wk.refl _⟩
  ·refine bool_false (ltN_f (show ¬ i < (zl H).length by omega)) ?_
   conv => whnf
   obtain rfl : H.length = i := by omega
   repeat ((first
    |refine plan_as (nthP g0) ?_
    |refine plan_as (takP tF) ?_
    |refine ko_rT (inR_t hhz) ?_
    |refine ko_sF (inR_t hhz) ?_
    |refine plan_as (pick_t (inR_t hhz)) ?_
    |refine bool_true (inR_t hhz) ?_
    |refine ko_rT iF ?_
    |refine ko_sF iF ?_
    |refine plan_as (pick_t iF) ?_
    |refine bool_true iF ?_
    |refine sym_pure hC (pR) ?_
    |refine sym_drawn hS (by kernel_rfl) ?_); conv => whnf)
   by_cases q1 : rsm (rtA N2 (gn H hand)) (n, d)
   ·have hq' : ∀ cst, q0 36 cst (fv (rdA N2 (gn H hand)).1 (rdA N2 (gn H hand)).2) (fv (redF n d).1 (redF n d).2) = some true := fun cst => by rw [e0.2 q1]; exact eqQ_same (.inl rfl) cst _ _
    rw [decide_eq_true (suP_iff.2 ⟨q1, ho⟩)]
    refine sym_eq hq true (hq' _) ?_
    conv => whnf
    refine sym_drawn hS (by kernel_rfl) ?_
    conv => whnf
    exact ⟨_, rfl, Wk.refl _⟩
   ·rw [decide_eq_false fun z : suP N N2 H hand (n, d) => q1 (suP_iff.1 z).1]
    refine sym_eq hq false (eqQ_ne (.inl rfl) _ _ _ _ _ fun z => q1 (e0.1 (Prod.ext (Int.ofNat.inj z.1) (Int.ofNat.inj z.2)))) ?_
    conv => whnf
    refine sym_drawn hS (by kernel_rfl) ?_
    conv => whnf
    exact ⟨_, rfl, Wk.refl _⟩
 ·refine pure_sym hE rfl (by repeat' (first | exact trivial | assumption | exact flat_no _ | exact (fun _ h => nomatch h) | apply And.intro)) (by repeat' (first | exact trivial | assumption | exact flat_no _ | exact (fun _ h => nomatch h) | apply And.intro)) fun S q pc hS hq hC hE => ?_
  conv => whnf
  repeat ((first
   |refine sym_pure hC (p1) ?_
   |refine sym_pure hC (p2) ?_
   |refine sym_pure hC (p3) ?_
   |refine sym_drawn hS (by kernel_rfl) ?_
   |refine sym_eq hq true (eqBool_same _ _) ?_
   |rw [beq_self_eq_true]
   |rw [bne_self_eq_false]); conv => whnf)
  repeat ((first
   |refine ko_sT c1 ?_
   |refine ko_rF c1 ?_
   |refine plan_as (pick_f c1) ?_
   |refine bool_false c1 ?_
   |refine ko_sT c2 ?_
   |refine ko_rF c2 ?_
   |refine plan_as (pick_f c2) ?_
   |refine bool_false c2 ?_
   |refine sym_drawn hS (by kernel_rfl) ?_); conv => whnf)
  refine sym_loop hE hS (A := Nat) [2, 4, 7, 9, 12] (fun i => [(15, nv i)]) (fun _ => []) (fun i => i ≤ H.length ∧ othL N N2 H hand i) (fun i => H.length - i) 0 rfl rfl (by refine ⟨rfl, rfl, rfl, rfl, ?_, ?_⟩ <;> repeat' (first | exact trivial | exact rfl | exact Nat.zero_le _ | exact bdl_no lN | exact bdl_no lM | exact bdl_no lR | exact bdl_no lR2 | exact Nat.le_of_ble_eq_true rfl | exact bdl_no (by assumption) | exact bdl_no (flat_no _) | exact bdl_no (ivs_no _) | exact Nat.max_le.2 ⟨Nat.le_of_ble_eq_true rfl, bdl_no (ivs_no _)⟩ | apply And.intro)) ⟨Nat.zero_le _, fun _ h => absurd h (Nat.not_lt_zero _)⟩ ?_
  intro i ⟨hi, ho⟩
  have hi1 : i < H.length → IntKind.i64.wrap (Int.ofNat i + 1) = Int.ofNat (i + 1) := fun h => wrapN (m := i + 1) (by omega)
  conv => whnf
  by_cases hi2 : i < H.length
  ·have hiz : i < (zl H).length := by omega
   refine bool_true (ltN_t hiz) ?_
   conv => whnf
   have g1 : nth (ivs (zl H)) (i * 1) = some (nv (gn H i)) := by rw [nth_ivs1 hiz, gi_zl H hi2]
   have k1 := h.hd _ (gn_mem H hi2)
   have k2 := hX.hd _ (gn_mem H hi2)
   have e3 := rsm_red h.ok hX.ok k1.2 k2.2
   have tt := tE i hi2
   by_cases ei : i = hand
   ·have c3 : (Int.ofNat i != Int.ofNat hand) = false := by rw [ei]; exact bne_self_eq_false _
    repeat ((first
     |refine ko_sT c3 ?_
     |refine ko_rF c3 ?_
     |refine plan_as (pick_f c3) ?_
     |refine bool_false c3 ?_
     |refine ko_sT (gd_tf c3) ?_
     |refine ko_rF (gd_tf c3) ?_
     |refine plan_as (pick_f (gd_tf c3)) ?_
     |refine bool_false (gd_tf c3) ?_
     |refine sym_drawn hS (by kernel_rfl) ?_); conv => whnf)
    exact ⟨i + 1, ⟨hi2, fun j hj hn => by
     by_cases e : j = i
     ·exact absurd (e.trans ei) hn
     ·exact ho j (by omega) hn⟩, by omega, (by refine ⟨rfl, rfl, rfl, rfl, ?_, ?_⟩ <;> repeat' (first | exact trivial | exact rfl | exact Nat.zero_le _ | exact congrArg (fun z => some (AV.int .i64 z)) (hi1 hi2) | exact bdl_no lN | exact bdl_no lM | exact bdl_no lR | exact bdl_no lR2 | exact Nat.le_of_ble_eq_true rfl | exact bdl_no (by assumption) | exact bdl_no (flat_no _) | exact bdl_no (ivs_no _) | exact Nat.max_le.2 ⟨Nat.le_of_ble_eq_true rfl, bdl_no (ivs_no _)⟩ | apply And.intro))⟩
   ·have c3 : (Int.ofNat i != Int.ofNat hand) = true := bne_iff_ne.2 fun z => ei (Int.ofNat.inj z)
    by_cases hs : rsm (rtA N (gn H i)) (rtA N2 (gn H i))
    ·have hq2 : ∀ cst, q0 36 cst (fv (rdA N (gn H i)).1 (rdA N (gn H i)).2) (fv (rdA N2 (gn H i)).1 (rdA N2 (gn H i)).2) = some true := fun cst => by rw [e3.2 hs]; exact eqQ_same (.inl rfl) cst _ _
     repeat ((first
      |refine plan_as (nthP g1) ?_
      |refine plan_as (takP tt.1) ?_
      |refine plan_as (takP tt.2.1) ?_
      |refine ko_rT c3 ?_
      |refine ko_sF c3 ?_
      |refine plan_as (pick_t c3) ?_
      |refine bool_true c3 ?_
      |refine ko_rT (gd_tt c3) ?_
      |refine ko_sF (gd_tt c3) ?_
      |refine plan_as (pick_t (gd_tt c3)) ?_
      |refine bool_true (gd_tt c3) ?_
      |refine ko_rT (inR_t hiz) ?_
      |refine ko_sF (inR_t hiz) ?_
      |refine plan_as (pick_t (inR_t hiz)) ?_
      |refine bool_true (inR_t hiz) ?_
      |refine ko_rT (tt.2.2.1) ?_
      |refine ko_sF (tt.2.2.1) ?_
      |refine plan_as (pick_t (tt.2.2.1)) ?_
      |refine bool_true (tt.2.2.1) ?_
      |refine ko_sT (tt.2.2.1) ?_
      |refine ko_rF (tt.2.2.1) ?_
      |refine plan_as (pick_f (tt.2.2.1)) ?_
      |refine bool_false (tt.2.2.1) ?_
      |refine ko_rT (tt.2.2.2) ?_
      |refine ko_sF (tt.2.2.2) ?_
      |refine plan_as (pick_t (tt.2.2.2)) ?_
      |refine bool_true (tt.2.2.2) ?_
      |refine ko_sT (tt.2.2.2) ?_
      |refine ko_rF (tt.2.2.2) ?_
      |refine plan_as (pick_f (tt.2.2.2)) ?_
      |refine bool_false (tt.2.2.2) ?_
      |refine sym_drawn hS (by kernel_rfl) ?_); conv => whnf)
     refine sym_eq hq true (hq2 _) ?_
     conv => whnf
     repeat ((first
      |refine ko_rT c3 ?_
      |refine ko_sF c3 ?_
      |refine plan_as (pick_t c3) ?_
      |refine bool_true c3 ?_
      |refine sym_drawn hS (by kernel_rfl) ?_); conv => whnf)
     exact ⟨i + 1, ⟨hi2, fun j hj hn => by
      by_cases e : j = i
      ·subst e; exact hs
      ·exact ho j (by omega) hn⟩, by omega, (by refine ⟨rfl, rfl, rfl, rfl, ?_, ?_⟩ <;> repeat' (first | exact trivial | exact rfl | exact Nat.zero_le _ | exact congrArg (fun z => some (AV.int .i64 z)) (hi1 hi2) | exact bdl_no lN | exact bdl_no lM | exact bdl_no lR | exact bdl_no lR2 | exact Nat.le_of_ble_eq_true rfl | exact bdl_no (by assumption) | exact bdl_no (flat_no _) | exact bdl_no (ivs_no _) | exact Nat.max_le.2 ⟨Nat.le_of_ble_eq_true rfl, bdl_no (ivs_no _)⟩ | apply And.intro))⟩
    ·rw [decide_eq_false fun z : suP N N2 H hand (n, d) => hs ((suP_iff.1 z).2 i hi2 ei)]
     repeat ((first
      |refine plan_as (nthP g1) ?_
      |refine plan_as (takP tt.1) ?_
      |refine plan_as (takP tt.2.1) ?_
      |refine ko_rT c3 ?_
      |refine ko_sF c3 ?_
      |refine plan_as (pick_t c3) ?_
      |refine bool_true c3 ?_
      |refine ko_rT (gd_tt c3) ?_
      |refine ko_sF (gd_tt c3) ?_
      |refine plan_as (pick_t (gd_tt c3)) ?_
      |refine bool_true (gd_tt c3) ?_
      |refine ko_rT (inR_t hiz) ?_
      |refine ko_sF (inR_t hiz) ?_
      |refine plan_as (pick_t (inR_t hiz)) ?_
      |refine bool_true (inR_t hiz) ?_
      |refine ko_rT (tt.2.2.1) ?_
      |refine ko_sF (tt.2.2.1) ?_
      |refine plan_as (pick_t (tt.2.2.1)) ?_
      |refine bool_true (tt.2.2.1) ?_
      |refine ko_sT (tt.2.2.1) ?_
      |refine ko_rF (tt.2.2.1) ?_
      |refine plan_as (pick_f (tt.2.2.1)) ?_
      |refine bool_false (tt.2.2.1) ?_
      |refine ko_rT (tt.2.2.2) ?_
      |refine ko_sF (tt.2.2.2) ?_
      |refine plan_as (pick_t (tt.2.2.2)) ?_
      |refine bool_true (tt.2.2.2) ?_
      |refine ko_sT (tt.2.2.2) ?_
      |refine ko_rF (tt.2.2.2) ?_
      |refine plan_as (pick_f (tt.2.2.2)) ?_
      |refine bool_false (tt.2.2.2) ?_
      |refine sym_drawn hS (by kernel_rfl) ?_); conv => whnf)
     refine sym_eq hq false (eqQ_ne (.inl rfl) _ _ _ _ _ fun z => hs (e3.1 (Prod.ext (Int.ofNat.inj z.1) (Int.ofNat.inj z.2)))) ?_
     conv => whnf
     repeat ((first
      |refine ko_rT c3 ?_
      |refine ko_sF c3 ?_
      |refine plan_as (pick_t c3) ?_
      |refine bool_true c3 ?_
      |refine sym_drawn hS (by kernel_rfl) ?_); conv => whnf)
     exact ⟨_, rfl, Wk.refl _⟩
  ·refine bool_false (ltN_f (show ¬ i < (zl H).length by omega)) ?_
   conv => whnf
   obtain rfl : H.length = i := by omega
   repeat ((first
    |refine plan_as (nthP g0) ?_
    |refine plan_as (takP tF) ?_
    |refine ko_rT (inR_t hhz) ?_
    |refine ko_sF (inR_t hhz) ?_
    |refine plan_as (pick_t (inR_t hhz)) ?_
    |refine bool_true (inR_t hhz) ?_
    |refine ko_rT iF ?_
    |refine ko_sF iF ?_
    |refine plan_as (pick_t iF) ?_
    |refine bool_true iF ?_
    |refine sym_pure hC (pR) ?_
    |refine sym_drawn hS (by kernel_rfl) ?_); conv => whnf)
   by_cases q1 : rsm (rtA N2 (gn H hand)) (n, d)
   ·have hq' : ∀ cst, q0 36 cst (fv (rdA N2 (gn H hand)).1 (rdA N2 (gn H hand)).2) (fv (redF n d).1 (redF n d).2) = some true := fun cst => by rw [e0.2 q1]; exact eqQ_same (.inl rfl) cst _ _
    rw [decide_eq_true (suP_iff.2 ⟨q1, ho⟩)]
    refine sym_eq hq true (hq' _) ?_
    conv => whnf
    refine sym_drawn hS (by kernel_rfl) ?_
    conv => whnf
    exact ⟨_, rfl, Wk.refl _⟩
   ·rw [decide_eq_false fun z : suP N N2 H hand (n, d) => q1 (suP_iff.1 z).1]
    refine sym_eq hq false (eqQ_ne (.inl rfl) _ _ _ _ _ fun z => q1 (e0.1 (Prod.ext (Int.ofNat.inj z.1) (Int.ofNat.inj z.2)))) ?_
    conv => whnf
    refine sym_drawn hS (by kernel_rfl) ?_
    conv => whnf
    exact ⟨_, rfl, Wk.refl _⟩
end
end Go.Abs.Seat
