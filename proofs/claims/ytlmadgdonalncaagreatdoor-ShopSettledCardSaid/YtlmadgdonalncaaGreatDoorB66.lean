/-
  Books of accounts: what is a settlement, as the document says.
-/
import Derived.Test.YtlmadgdonalncaaGreatDoorB65
/-! Books of accounts: what is a settlement, as the document says. -/
namespace Go.Abs.Seat
noncomputable section
open Go Go.Abs Go.Proofs.Tryz
set_option maxRecDepth 100000
set_option maxHeartbeats 40000000
attribute [local irreducible] IntKind.wrap pEq

theorem rElt_pure (x y : LkI) : Pure prog 22 [enA x, enA y] (.bool (decide (elP x y))) := by
 obtain ⟨B, hB⟩ : ∃ B, decide (elP x y) = B := ⟨_, rfl⟩
 rw [hB]
 by_cases h1 : x.1 < y.1
 ·have c1 : decide (x.1 < y.1) = true := decide_eq_true h1
  rw [← hB, decide_eq_true (show elP x y from .inl h1)]
  refine pure_sym hE rfl (by repeat' (first | exact trivial | assumption | exact flat_no _ | exact (fun _ h => nomatch h) | apply And.intro)) (by repeat' (first | exact trivial | assumption | exact flat_no _ | exact (fun _ h => nomatch h) | apply And.intro)) fun S q pc hS hq hC hE => ?_
  conv => whnf
  repeat ((first
   |refine ko_rT c1 ?_
   |refine ko_sF c1 ?_
   |refine plan_as (pick_t c1) ?_
   |refine bool_true c1 ?_
   |refine ko_sT (gft c1) ?_
   |refine ko_rF (gft c1) ?_
   |refine plan_as (pick_f (gft c1)) ?_
   |refine bool_false (gft c1) ?_
   |refine sym_drawn hS (by kernel_rfl) ?_); conv => whnf)
  exact ⟨_, rfl, Wk.refl _⟩
 ·have c1 : decide (x.1 < y.1) = false := decide_eq_false h1
  by_cases h2 : x.1 = y.1
  ·have c2 : (x.1 == y.1) = true := beq_iff_eq.2 h2
   have e : decide (x.2.1 < y.2.1) = B := by
    rw [← hB]
    exact decide_eq_decide.2 (by unfold elP; omega)
   rw [← e]
   refine pure_sym hE rfl (by repeat' (first | exact trivial | assumption | exact flat_no _ | exact (fun _ h => nomatch h) | apply And.intro)) (by repeat' (first | exact trivial | assumption | exact flat_no _ | exact (fun _ h => nomatch h) | apply And.intro)) fun S q pc hS hq hC hE => ?_
   conv => whnf
   repeat ((first
    |refine ko_sT c1 ?_
    |refine ko_rF c1 ?_
    |refine plan_as (pick_f c1) ?_
    |refine bool_false c1 ?_
    |refine ko_rT (gff c1) ?_
    |refine ko_sF (gff c1) ?_
    |refine plan_as (pick_t (gff c1)) ?_
    |refine bool_true (gff c1) ?_
    |refine ko_rT c2 ?_
    |refine ko_sF c2 ?_
    |refine plan_as (pick_t c2) ?_
    |refine bool_true c2 ?_
    |refine ko_rT (gd_tt c2) ?_
    |refine ko_sF (gd_tt c2) ?_
    |refine plan_as (pick_t (gd_tt c2)) ?_
    |refine bool_true (gd_tt c2) ?_
    |refine sym_drawn hS (by kernel_rfl) ?_); conv => whnf)
   exact ⟨_, rfl, Wk.refl _⟩
  ·have c2 : (x.1 == y.1) = false := beq_eq_false_iff_ne.2 h2
   rw [← hB, decide_eq_false (show ¬ elP x y by unfold elP; omega)]
   refine pure_sym hE rfl (by repeat' (first | exact trivial | assumption | exact flat_no _ | exact (fun _ h => nomatch h) | apply And.intro)) (by repeat' (first | exact trivial | assumption | exact flat_no _ | exact (fun _ h => nomatch h) | apply And.intro)) fun S q pc hS hq hC hE => ?_
   conv => whnf
   repeat ((first
    |refine ko_sT c1 ?_
    |refine ko_rF c1 ?_
    |refine plan_as (pick_f c1) ?_
    |refine bool_false c1 ?_
    |refine ko_rT (gff c1) ?_
    |refine ko_sF (gff c1) ?_
    |refine plan_as (pick_t (gff c1)) ?_
    |refine bool_true (gff c1) ?_
    |refine ko_sT c2 ?_
    |refine ko_rF c2 ?_
    |refine plan_as (pick_f c2) ?_
    |refine bool_false c2 ?_
    |refine ko_sT (gd_tf c2) ?_
    |refine ko_rF (gd_tf c2) ?_
    |refine plan_as (pick_f (gd_tf c2)) ?_
    |refine bool_false (gd_tf c2) ?_
    |refine sym_drawn hS (by kernel_rfl) ?_); conv => whnf)
   exact ⟨_, rfl, Wk.refl _⟩
theorem sg_bdM {M : Int} (hM : 0 ≤ M) : ∀ {L : List LkI} {a : Int}, (∀ j, j < L.length → 0 ≤ (gL L j).2.2 ∧ (gL L j).2.2 ≤ M) → -((L.length : Int) * M) ≤ sg L a ∧ sg L a ≤ (L.length : Int) * M
 | [], _, _ => ⟨by simp [sg], by simp [sg]⟩
 |e :: r, a, h => by
  have h0 := h 0 (Nat.succ_pos _)
  rw [gL_zero] at h0
  have hf : -M ≤ fl a e ∧ fl a e ≤ M := by
   unfold fl
   split <;> split <;> omega
  have := sg_bdM hM (L := r) (a := a) fun j hj => h (j + 1) (Nat.succ_lt_succ hj)
  rw [sg, List.length_cons, Int.natCast_add, Int.add_mul]
  omega
def stE (b : List Int) (L : List LkI) (i : Nat) : Prop := (0 ≤ (gL L i).1 ∧ (gL L i).1 ≤ (b.length : Int) - 1) ∧ (0 ≤ (gL L i).2.1 ∧ (gL L i).2.1 ≤ (b.length : Int) - 1) ∧ 0 < b.getD (gL L i).1.toNat 0 ∧ b.getD (gL L i).2.1.toNat 0 < 0 ∧ (1 ≤ (gL L i).2.2 ∧ (gL L i).2.2 ≤ 8000000) ∧ (0 < i → elP (gL L (i - 1)) (gL L i))
def stP (b : List Int) (L : List LkI) : Prop := (∀ i, i < L.length → stE b L i) ∧ ∀ a : Nat, a < b.length → b.getD a 0 + sg L (Int.ofNat a) = 0
structure TInv (b : List Int) (L : List LkI) (i : Nat) (lf : List Int) (t : Tr AV) : Prop where
 len : lf.length = b.length
 c : ∀ j, t.get j = (ivs lf)[j]?
 v : ∀ a, a < b.length → lf.getD a 0 = b.getD a 0 + sg (L.take i) (Int.ofNat a)
 e : ∀ j, j < i → stE b L j
theorem TInv.get {b : List Int} {L : List LkI} {i : Nat} {lf : List Int} {t : Tr AV} (h : TInv b L i lf t) {a : Nat} (ha : a < b.length) : t.get (0 + a * 1) = some (iv (lf.getD a 0)) := by
 rw [h.c, show 0 + a * 1 = a by omega, ivs_getD (by rw [h.len]; exact ha)]
theorem TInv.bd {b : List Int} {L : List LkI} {i : Nat} {lf : List Int} {t : Tr AV} (h : TInv b L i lf t) (hl : L.length ≤ 10) (hi : i ≤ L.length) (hbd : ∀ a, a < b.length → - 8000000 ≤ b.getD a 0 ∧ b.getD a 0 ≤ 8000000) {a : Nat} (ha : a < b.length) : -100000000 ≤ lf.getD a 0 ∧ lf.getD a 0 ≤ 100000000 := by
 rw [h.v a ha]
 have h1 := hbd a ha
 have := sg_bdM (M := 8000000) (by decide) (L := L.take i) (a := Int.ofNat a) fun j hj => by
  rw [List.length_take] at hj
  rw [gL_takeE L (by omega)]
  have := (h.e j (by omega)).2.2.2.2.1
  omega
 have hl2 : (L.take i).length ≤ 10 := by rw [List.length_take]; omega
 omega
theorem TInv.step {b : List Int} {L : List LkI} {i : Nat} {lf : List Int} {t : Tr AV} (h : TInv b L i lf t) (hl : L.length ≤ 10) (hbd : ∀ a, a < b.length → - 8000000 ≤ b.getD a 0 ∧ b.getD a 0 ≤ 8000000) (hi : i < L.length) (hst : stE b L i) {f s : Nat} (hf : (gL L i).1 = Int.ofNat f) (hs : (gL L i).2.1 = Int.ofNat s) (hfk : f < b.length) (hsk : s < b.length) (hfs : f ≠ s) {t1 t2 : Tr AV} (e1 : t1 = tset (pathOf (0 + f * 1)) t (iv (IntKind.i64.wrap (lf.getD f 0 - (gL L i).2.2)))) (e2 : t2 = tset (pathOf (0 + s * 1)) t1 (iv (IntKind.i64.wrap (lf.getD s 0 + (gL L i).2.2)))) :
  t1.get (0 + s * 1) = some (iv (lf.getD s 0)) ∧ TInv b L (i + 1) ((lf.set f (lf.getD f 0 - (gL L i).2.2)).set s (lf.getD s 0 + (gL L i).2.2)) t2 := by
 have hc := hst.2.2.2.2.1
 have b1 := h.bd hl (Nat.le_of_lt hi) hbd hfk
 have b2 := h.bd hl (Nat.le_of_lt hi) hbd hsk
 rw [show IntKind.i64.wrap (lf.getD f 0 - (gL L i).2.2) = lf.getD f 0 - (gL L i).2.2 from wrapI (by omega) (by omega)] at e1
 rw [show IntKind.i64.wrap (lf.getD s 0 + (gL L i).2.2) = lf.getD s 0 + (gL L i).2.2 from wrapI (by omega) (by omega)] at e2
 have hfl : f < lf.length := by rw [h.len]; exact hfk
 have g1 : ∀ j, t1.get j = (ivs (lf.set f (lf.getD f 0 - (gL L i).2.2)))[j]? := fun j => by
  rw [e1, tset_at (h.get hfk), ivs_set _ hfl, h.c, show 0 + f * 1 = f by omega]
 have hsl : s < (lf.set f (lf.getD f 0 - (gL L i).2.2)).length := by rw [List.length_set, h.len]; exact hsk
 have gs' : (lf.set f (lf.getD f 0 - (gL L i).2.2)).getD s 0 = lf.getD s 0 := by rw [getD_set _ _ hfl, if_neg (Ne.symm hfs)]
 have r1 : t1.get (0 + s * 1) = some (iv (lf.getD s 0)) := by rw [g1, show 0 + s * 1 = s by omega, ivs_getD hsl, gs']
 refine ⟨r1, by rw [List.length_set, List.length_set, h.len], fun j => ?_, fun a ha => ?_, fun j hj => ?_⟩
 ·rw [e2, tset_at r1, ivs_set _ hsl, g1, show 0 + s * 1 = s by omega]
 ·have hv := h.v a ha
  rw [getD_set _ _ hsl, getD_set _ _ hfl, sg_take L hi, ← Int.add_assoc, ← hv]
  unfold fl
  rw [hf, hs]
  have d1 : (Int.ofNat s = Int.ofNat a) = (a = s) := propext ⟨fun z => (Int.ofNat.inj z).symm, fun z => by rw [z]⟩
  have d2 : (Int.ofNat f = Int.ofNat a) = (a = f) := propext ⟨fun z => (Int.ofNat.inj z).symm, fun z => by rw [z]⟩
  simp only [d1, d2]
  by_cases q1 : a = s
  ·subst q1
   rw [if_pos rfl, if_pos rfl, if_neg (Ne.symm hfs)]; omega
  ·rw [if_neg q1, if_neg q1]
   by_cases q2 : a = f
   ·subst q2
    rw [if_pos rfl, if_pos rfl]; omega
   ·rw [if_neg q2, if_neg q2]; omega
 ·by_cases z : j = i
  ·rw [z]; exact hst
  ·exact h.e j (by omega)
def muT : Option Tmp → TypeId → Bool := fun d t => match d with
 |some 10 => t == 24
 | _ => false
--STUB--
theorem rSet_nil {b : List Int} (hk5 : 2 ≤ b.length ∧ b.length ≤ 5) {B : Bool} (hB : B = true ↔ stP b []) : Pure prog 21 [nl b, .nils] (.bool B) := by
 have ll := ivs_no b
 have l1 := ivs_len b
 obtain ⟨m, hm⟩ : ∃ m, b.length = m + 1 := ⟨b.length - 1, by omega⟩
 refine pure_symF (hEM muT) rfl (by repeat' (first | exact trivial | assumption | exact flat_no _ | exact (fun _ h => nomatch h) | apply And.intro)) (by repeat' (first | exact trivial | assumption | exact flat_no _ | exact (fun _ h => nomatch h) | apply And.intro)) fun S q pc hS hq hC hE => ?_
 conv => whnf
 refine plan_as (pSrc_eq (e := 3) (ys := ivs b) (m := b.length) (own := .no) (l := ivs b) (by kernel_rfl) rfl (takeN_ivs _)) ?_
 rw [hm]
 conv => whnf
 refine bool_true (allCells_ivs b) ?_
 conv => whnf
 refine bool_true (decide_eq_true (show (m + 1) * 8 ≤ 140737488355328 by omega)) ?_
 conv => whnf
 refine bool_true (decide_eq_true (show m + 1 ≤ 9223372036854775807 by omega)) ?_
 conv => whnf
 refine newl_sym (l1.trans hm) ?_
 intro t0 ht0
 conv => whnf
 have hT : TInv b [] ([] : List LkI).length b t0 := ⟨rfl, ht0, fun a _ => (Int.add_zero _).symm, fun j h => absurd h (Nat.not_lt_zero _)⟩
 refine sym_unroll hE hS ?_
 conv => whnf
 obtain ⟨lf, hT⟩ : ∃ lf, TInv b [] ([] : List LkI).length lf t0 := ⟨b, hT⟩
 have hlt := hT.len
 refine sym_loopG hE hS (A := Nat) [5] (fun i => [(8, nv i)]) (fun _ => []) (fun _ => []) (fun i => i ≤ m + 1 ∧ ∀ j, j < i → lf.getD j 0 = 0) (fun i => m + 1 - i) 0 (Nat.le_of_ble_eq_true rfl) rfl (by refine ⟨rfl, rfl, rfl, rfl, rfl, rfl, 1, rfl, ?_, ?_⟩ <;> repeat' (first | exact trivial | exact rfl | exact ⟨_, rfl, WkV.refl _⟩ | exact ⟨_, rfl, WkV.own _ _ _⟩ | exact Nat.zero_le _ | exact bdT_ivs hT.c | exact Nat.le_of_ble_eq_true rfl | exact bdl_no (by assumption) | exact bdl_no (flat_no _) | exact bdl_no (ivs_no _) | exact bdl_no (svs_no _) | exact Nat.max_le.2 ⟨Nat.le_of_ble_eq_true rfl, bdl_no (ivs_no _)⟩ | exact Nat.max_le.2 ⟨Nat.le_of_ble_eq_true rfl, bdl_no (svs_no _)⟩ | apply And.intro)) ⟨Nat.zero_le _, fun _ h => absurd h (Nat.not_lt_zero _)⟩ ?_
 rintro i ⟨hi, hj⟩ Q hQ
 obtain rfl : Q = 1 := hQ
 conv => whnf
 by_cases hi2 : i < m + 1
 ·have gi := hT.get (a := i) (by omega)
  have di : decide (0 + i * 1 < m + 1) = true := decide_eq_true (by omega)
  by_cases c : lf.getD i 0 = 0
  ·have c0 : (lf.getD i 0 != 0) = false := by rw [c]; rfl
   repeat ((first
    |refine plan_as (getP_as gi) ?_
    |refine ko_rT (ltN_t hi2) ?_
    |refine ko_sF (ltN_t hi2) ?_
    |refine plan_as (pick_t (ltN_t hi2)) ?_
    |refine bool_true (ltN_t hi2) ?_
    |refine ko_sT (ltN_t hi2) ?_
    |refine ko_rF (ltN_t hi2) ?_
    |refine plan_as (pick_f (ltN_t hi2)) ?_
    |refine bool_false (ltN_t hi2) ?_
    |refine ko_rT (inR_t hi2) ?_
    |refine ko_sF (inR_t hi2) ?_
    |refine plan_as (pick_t (inR_t hi2)) ?_
    |refine bool_true (inR_t hi2) ?_
    |refine ko_rT di ?_
    |refine ko_sF di ?_
    |refine plan_as (pick_t di) ?_
    |refine bool_true di ?_
    |refine ko_sT c0 ?_
    |refine ko_rF c0 ?_
    |refine plan_as (pick_f c0) ?_
    |refine bool_false c0 ?_
    |refine sym_drawn hS (by kernel_rfl) ?_); conv => whnf)
   exact ⟨i + 1, ⟨hi2, fun j h => by
    by_cases e : j = i
    ·rw [e]; exact c
    ·exact hj j (by omega)⟩, by omega, Nat.le_refl _, (by refine ⟨rfl, rfl, rfl, rfl, rfl, rfl, 1, rfl, ?_, ?_⟩ <;> repeat' (first | exact trivial | exact rfl | exact ⟨_, rfl, WkV.refl _⟩ | exact ⟨_, rfl, WkV.own _ _ _⟩ | exact Nat.zero_le _ | exact ⟨_, rfl, WkV.int (show IntKind.i64.wrap (Int.ofNat i + 1) = Int.ofNat (i + 1) from wrapN (m := i + 1) (by omega))⟩ | exact bdT_ivs hT.c | exact Nat.le_of_ble_eq_true rfl | exact bdl_no (by assumption) | exact bdl_no (flat_no _) | exact bdl_no (ivs_no _) | exact bdl_no (svs_no _) | exact Nat.max_le.2 ⟨Nat.le_of_ble_eq_true rfl, bdl_no (ivs_no _)⟩ | exact Nat.max_le.2 ⟨Nat.le_of_ble_eq_true rfl, bdl_no (svs_no _)⟩ | apply And.intro))⟩
  ·have c0 : (lf.getD i 0 != 0) = true := bne_iff_ne.2 c
   repeat ((first
    |refine plan_as (getP_as gi) ?_
    |refine ko_rT (ltN_t hi2) ?_
    |refine ko_sF (ltN_t hi2) ?_
    |refine plan_as (pick_t (ltN_t hi2)) ?_
    |refine bool_true (ltN_t hi2) ?_
    |refine ko_sT (ltN_t hi2) ?_
    |refine ko_rF (ltN_t hi2) ?_
    |refine plan_as (pick_f (ltN_t hi2)) ?_
    |refine bool_false (ltN_t hi2) ?_
    |refine ko_rT (inR_t hi2) ?_
    |refine ko_sF (inR_t hi2) ?_
    |refine plan_as (pick_t (inR_t hi2)) ?_
    |refine bool_true (inR_t hi2) ?_
    |refine ko_rT di ?_
    |refine ko_sF di ?_
    |refine plan_as (pick_t di) ?_
    |refine bool_true di ?_
    |refine ko_rT c0 ?_
    |refine ko_sF c0 ?_
    |refine plan_as (pick_t c0) ?_
    |refine bool_true c0 ?_
    |refine sym_drawn hS (by kernel_rfl) ?_); conv => whnf)
   refine ⟨_, rfl, ?_⟩
   rw [show B = false from Bool.eq_false_iff.2 fun z => c (by rw [hT.v i (by omega), List.take_of_length_le (Nat.le_refl _)]; exact (hB.1 z).2 i (by omega))]
   exact FzV.no (v := .bool false) trivial
 ·refine bool_false (ltN_f hi2) ?_
  conv => whnf
  refine .inl ?_
  conv => whnf
  refine ⟨_, rfl, ?_⟩
  rw [hB.2 ⟨hT.e, fun a ha => by
   have := hj a (by omega)
   rw [hT.v a (by omega), List.take_of_length_le (Nat.le_refl _)] at this
   exact this⟩]
  exact FzV.no (v := .bool true) trivial
theorem rSet_L {b : List Int} (hk5 : 2 ≤ b.length ∧ b.length ≤ 5) (hbd : ∀ a, a < b.length → - 8000000 ≤ b.getD a 0 ∧ b.getD a 0 ≤ 8000000) {L : List LkI} (hl : L.length ≤ 10) {B : Bool} (hB : B = true ↔ stP b L) : Pure prog 21 [nl b, lkA L] (.bool B) := by
 have ll := ivs_no b
 have l1 := ivs_len b
 have lL := lks_no L
 obtain ⟨m, hm⟩ : ∃ m, b.length = m + 1 := ⟨b.length - 1, by omega⟩
 have hw : IntKind.i64.wrap ((b.length : Int) - 1) = (b.length : Int) - 1 := wrapI (by omega) (by omega)
 refine pure_symF (hEM muT) rfl (by repeat' (first | exact trivial | assumption | exact flat_no _ | exact (fun _ h => nomatch h) | apply And.intro)) (by repeat' (first | exact trivial | assumption | exact flat_no _ | exact (fun _ h => nomatch h) | apply And.intro)) fun S q pc hS hq hC hE => ?_
 conv => whnf
 refine plan_as (pSrc_eq (e := 3) (ys := ivs b) (m := b.length) (own := .no) (l := ivs b) (by kernel_rfl) rfl (takeN_ivs _)) ?_
 rw [hm]
 conv => whnf
 refine bool_true (allCells_ivs b) ?_
 conv => whnf
 refine bool_true (decide_eq_true (show (m + 1) * 8 ≤ 140737488355328 by omega)) ?_
 conv => whnf
 refine bool_true (decide_eq_true (show m + 1 ≤ 9223372036854775807 by omega)) ?_
 conv => whnf
 refine newl_sym (l1.trans hm) ?_
 intro t0 ht0
 conv => whnf
 have hT0 : TInv b L 0 b t0 := ⟨rfl, ht0, fun a _ => by rw [List.take_zero, sg]; exact (Int.add_zero _).symm, fun j h => absurd h (Nat.not_lt_zero _)⟩
 refine sym_loopG hE hS (A := Nat × List Int × Tr AV) [0, 1, 5] (fun (i, _, _) => [(6, nv i)]) (fun (_, _, t) => [(0, .cells t (m + 1) 3)]) (fun _ => []) (fun (i, lf, t) => i ≤ L.length ∧ TInv b L i lf t) (fun (i, _, _) => L.length - i) (0, b, t0) (Nat.le_of_ble_eq_true rfl) rfl (by refine ⟨rfl, rfl, rfl, rfl, rfl, rfl, 1, rfl, ?_, ?_⟩ <;> repeat' (first | exact trivial | exact rfl | exact ⟨_, rfl, WkV.refl _⟩ | exact ⟨_, rfl, WkV.own _ _ _⟩ | exact Nat.zero_le _ | exact bdl_no lL | exact bdT_ivs hT0.c | exact Nat.le_of_ble_eq_true rfl | exact bdl_no (by assumption) | exact bdl_no (flat_no _) | exact bdl_no (ivs_no _) | exact bdl_no (svs_no _) | exact Nat.max_le.2 ⟨Nat.le_of_ble_eq_true rfl, bdl_no (ivs_no _)⟩ | exact Nat.max_le.2 ⟨Nat.le_of_ble_eq_true rfl, bdl_no (svs_no _)⟩ | apply And.intro)) ⟨Nat.zero_le _, hT0⟩ ?_
 rintro ⟨i, lf, t⟩ ⟨hi, hI⟩ Q hQ
 obtain rfl : Q = 1 := hQ
 conv => whnf
 by_cases hi2 : i < L.length
 ·refine bool_true (ltN_t hi2) ?_
  conv => whnf
  refine bool_true (inR_t hi2) ?_
  conv => whnf
  refine plan_as (takP (tak_lk L hi2)) ?_
  conv => whnf
  have hbad : ¬ stE b L i → B = false := fun z => Bool.eq_false_iff.2 fun k => z ((hB.1 k).1 i hi2)
  have p0 := in9_pure (gL L i).1 0 (IntKind.i64.wrap ((b.length : Int) - 1))
  have p1 := in9_pure (gL L i).2.1 0 (IntKind.i64.wrap ((b.length : Int) - 1))
  have p2 := in9_pure (gL L i).2.2 1 8000000
  by_cases q0 : 0 ≤ (gL L i).1 ∧ (gL L i).1 ≤ (b.length : Int) - 1
  ·have c0 : (!decide (0 ≤ (gL L i).1 ∧ (gL L i).1 ≤ IntKind.i64.wrap ((b.length : Int) - 1))) = false := nt_t (decide_eq_true (by rw [hw]; exact q0))
   by_cases q1 : 0 ≤ (gL L i).2.1 ∧ (gL L i).2.1 ≤ (b.length : Int) - 1
   ·have c1 : (!decide (0 ≤ (gL L i).2.1 ∧ (gL L i).2.1 ≤ IntKind.i64.wrap ((b.length : Int) - 1))) = false := nt_t (decide_eq_true (by rw [hw]; exact q1))
    have hf : (gL L i).1 = Int.ofNat (gL L i).1.toNat := (Int.toNat_of_nonneg q0.1).symm
    have hs : (gL L i).2.1 = Int.ofNat (gL L i).2.1.toNat := (Int.toNat_of_nonneg q1.1).symm
    have hfk : (gL L i).1.toNat < b.length := by omega
    have hsk : (gL L i).2.1.toNat < b.length := by omega
    have n0 := nth_ivs1 hfk
    have n1 := nth_ivs1 hsk
    have i0 : inR (gL L i).1 b.length = true := by rw [hf]; exact inR_t hfk
    have i1 : inR (gL L i).2.1 b.length = true := by rw [hs]; exact inR_t hsk
    by_cases q2 : b.getD (gL L i).1.toNat 0 ≤ 0
    ·have c2 : decide (b.getD (gL L i).1.toNat 0 ≤ 0) = true := decide_eq_true q2
     repeat ((first
      |refine plan_as (nthP n0) ?_
      |refine ko_sT c0 ?_
      |refine ko_rF c0 ?_
      |refine plan_as (pick_f c0) ?_
      |refine bool_false c0 ?_
      |refine ko_rT (gff c0) ?_
      |refine ko_sF (gff c0) ?_
      |refine plan_as (pick_t (gff c0)) ?_
      |refine bool_true (gff c0) ?_
      |refine ko_sT c1 ?_
      |refine ko_rF c1 ?_
      |refine plan_as (pick_f c1) ?_
      |refine bool_false c1 ?_
      |refine ko_rT (gff c1) ?_
      |refine ko_sF (gff c1) ?_
      |refine plan_as (pick_t (gff c1)) ?_
      |refine bool_true (gff c1) ?_
      |refine ko_rT i0 ?_
      |refine ko_sF i0 ?_
      |refine plan_as (pick_t i0) ?_
      |refine bool_true i0 ?_
      |refine ko_rT c2 ?_
      |refine ko_sF c2 ?_
      |refine plan_as (pick_t c2) ?_
      |refine bool_true c2 ?_
      |refine ko_sT (gft c2) ?_
      |refine ko_rF (gft c2) ?_
      |refine plan_as (pick_f (gft c2)) ?_
      |refine bool_false (gft c2) ?_
      |refine sym_pure hC (p0) ?_
      |refine sym_pure hC (p1) ?_
      |refine sym_drawn hS (by kernel_rfl) ?_); conv => whnf)
     refine ⟨_, rfl, ?_⟩
     rw [hbad fun z => by have := z.2.2.1; omega]
     exact FzV.no (v := .bool false) trivial
    ·have c2 : decide (b.getD (gL L i).1.toNat 0 ≤ 0) = false := decide_eq_false q2
     by_cases q3 : b.getD (gL L i).2.1.toNat 0 ≥ 0
     ·have c3 : decide (b.getD (gL L i).2.1.toNat 0 ≥ 0) = true := decide_eq_true q3
      repeat ((first
       |refine plan_as (nthP n0) ?_
       |refine plan_as (nthP n1) ?_
       |refine ko_sT c0 ?_
       |refine ko_rF c0 ?_
       |refine plan_as (pick_f c0) ?_
       |refine bool_false c0 ?_
       |refine ko_rT (gff c0) ?_
       |refine ko_sF (gff c0) ?_
       |refine plan_as (pick_t (gff c0)) ?_
       |refine bool_true (gff c0) ?_
       |refine ko_sT c1 ?_
       |refine ko_rF c1 ?_
       |refine plan_as (pick_f c1) ?_
       |refine bool_false c1 ?_
       |refine ko_rT (gff c1) ?_
       |refine ko_sF (gff c1) ?_
       |refine plan_as (pick_t (gff c1)) ?_
       |refine bool_true (gff c1) ?_
       |refine ko_rT i0 ?_
       |refine ko_sF i0 ?_
       |refine plan_as (pick_t i0) ?_
       |refine bool_true i0 ?_
       |refine ko_sT c2 ?_
       |refine ko_rF c2 ?_
       |refine plan_as (pick_f c2) ?_
       |refine bool_false c2 ?_
       |refine ko_rT (gff c2) ?_
       |refine ko_sF (gff c2) ?_
       |refine plan_as (pick_t (gff c2)) ?_
       |refine bool_true (gff c2) ?_
       |refine ko_rT i1 ?_
       |refine ko_sF i1 ?_
       |refine plan_as (pick_t i1) ?_
       |refine bool_true i1 ?_
       |refine ko_rT c3 ?_
       |refine ko_sF c3 ?_
       |refine plan_as (pick_t c3) ?_
       |refine bool_true c3 ?_
       |refine ko_sT (gft c3) ?_
       |refine ko_rF (gft c3) ?_
       |refine plan_as (pick_f (gft c3)) ?_
       |refine bool_false (gft c3) ?_
       |refine sym_pure hC (p0) ?_
       |refine sym_pure hC (p1) ?_
       |refine sym_drawn hS (by kernel_rfl) ?_); conv => whnf)
      refine ⟨_, rfl, ?_⟩
      rw [hbad fun z => by have := z.2.2.2.1; omega]
      exact FzV.no (v := .bool false) trivial
     ·have c3 : decide (b.getD (gL L i).2.1.toNat 0 ≥ 0) = false := decide_eq_false q3
      by_cases q4 : 1 ≤ (gL L i).2.2 ∧ (gL L i).2.2 ≤ 8000000
      ·have c4 : (!decide (1 ≤ (gL L i).2.2 ∧ (gL L i).2.2 ≤ 8000000)) = false := nt_t (decide_eq_true q4)
       have hfs : (gL L i).1.toNat ≠ (gL L i).2.1.toNat := fun z => by rw [z] at q2; omega
       by_cases q5 : 0 < i
       ·have c5 : decide (Int.ofNat i > 0) = true := decide_eq_true (Int.ofNat_lt.2 q5)
        have hw1 : IntKind.i64.wrap (Int.ofNat i - 1) = Int.ofNat (i - 1) := by
         rw [show Int.ofNat i - 1 = Int.ofNat (i - 1) by show (i : Int) - 1 = ((i - 1 : Nat) : Int); omega]
         exact wrapN (m := i - 1) (by omega)
        have i5 : inR (IntKind.i64.wrap (Int.ofNat i - 1)) L.length = true := by rw [hw1]; exact inR_t (by omega)
        have t5 : takeN 3 (dropN ((IntKind.i64.wrap (Int.ofNat i - 1)).toNat * 3) (lks L)) = some [iv (gL L (i - 1)).1, iv (gL L (i - 1)).2.1, iv (gL L (i - 1)).2.2] := by
         rw [hw1]
         exact tak_lk L (i := i - 1) (by omega)
        have p5 := rElt_pure (gL L (i - 1)) (gL L i)
        by_cases q6 : elP (gL L (i - 1)) (gL L i)
        ·have hst : stE b L i := ⟨q0, q1, by omega, by omega, q4, fun _ => q6⟩
         rw [decide_eq_true q6] at p5
         repeat ((first
          |refine plan_as (nthP n0) ?_
          |refine plan_as (nthP n1) ?_
          |refine plan_as (takP t5) ?_
          |refine ko_sT c0 ?_
          |refine ko_rF c0 ?_
          |refine plan_as (pick_f c0) ?_
          |refine bool_false c0 ?_
          |refine ko_rT (gff c0) ?_
          |refine ko_sF (gff c0) ?_
          |refine plan_as (pick_t (gff c0)) ?_
          |refine bool_true (gff c0) ?_
          |refine ko_sT c1 ?_
          |refine ko_rF c1 ?_
          |refine plan_as (pick_f c1) ?_
          |refine bool_false c1 ?_
          |refine ko_rT (gff c1) ?_
          |refine ko_sF (gff c1) ?_
          |refine plan_as (pick_t (gff c1)) ?_
          |refine bool_true (gff c1) ?_
          |refine ko_rT i0 ?_
          |refine ko_sF i0 ?_
          |refine plan_as (pick_t i0) ?_
          |refine bool_true i0 ?_
          |refine ko_sT c2 ?_
          |refine ko_rF c2 ?_
          |refine plan_as (pick_f c2) ?_
          |refine bool_false c2 ?_
          |refine ko_rT (gff c2) ?_
          |refine ko_sF (gff c2) ?_
          |refine plan_as (pick_t (gff c2)) ?_
          |refine bool_true (gff c2) ?_
          |refine ko_rT i1 ?_
          |refine ko_sF i1 ?_
          |refine plan_as (pick_t i1) ?_
          |refine bool_true i1 ?_
          |refine ko_sT c3 ?_
          |refine ko_rF c3 ?_
          |refine plan_as (pick_f c3) ?_
          |refine bool_false c3 ?_
          |refine ko_rT (gff c3) ?_
          |refine ko_sF (gff c3) ?_
          |refine plan_as (pick_t (gff c3)) ?_
          |refine bool_true (gff c3) ?_
          |refine ko_sT c4 ?_
          |refine ko_rF c4 ?_
          |refine plan_as (pick_f c4) ?_
          |refine bool_false c4 ?_
          |refine ko_rT (gff c4) ?_
          |refine ko_sF (gff c4) ?_
          |refine plan_as (pick_t (gff c4)) ?_
          |refine bool_true (gff c4) ?_
          |refine ko_rT c5 ?_
          |refine ko_sF c5 ?_
          |refine plan_as (pick_t c5) ?_
          |refine bool_true c5 ?_
          |refine ko_rT (gd_tt c5) ?_
          |refine ko_sF (gd_tt c5) ?_
          |refine plan_as (pick_t (gd_tt c5)) ?_
          |refine bool_true (gd_tt c5) ?_
          |refine ko_rT i5 ?_
          |refine ko_sF i5 ?_
          |refine plan_as (pick_t i5) ?_
          |refine bool_true i5 ?_
          |refine sym_pure hC (p0) ?_
          |refine sym_pure hC (p1) ?_
          |refine sym_pure hC (p2) ?_
          |refine sym_pure hC (p5) ?_
          |refine sym_drawn hS (by kernel_rfl) ?_); conv => whnf)
         have P := hI.step hl hbd hi2 hst hf hs hfk hsk hfs rfl rfl
         have gf := hI.get hfk
         have gs := hI.get hsk
         have j0 : inR (gL L i).1 (m + 1) = true := by rw [hf]; exact inR_t (by omega)
         have j1 : inR (gL L i).2.1 (m + 1) = true := by rw [hs]; exact inR_t (by omega)
         have d0 : decide (0 + (gL L i).1.toNat * 1 < m + 1) = true := decide_eq_true (by omega)
         have d1 : decide (0 + (gL L i).2.1.toNat * 1 < m + 1) = true := decide_eq_true (by omega)
         have b0 : Nat.ble (0 + (gL L i).1.toNat * 1 + 1) (m + 1) = true := Nat.ble_eq_true_of_le (by omega)
         have b1 : Nat.ble (0 + (gL L i).2.1.toNat * 1 + 1) (m + 1) = true := Nat.ble_eq_true_of_le (by omega)
         repeat ((first
          |refine plan_as (getP_as gf) ?_
          |refine plan_as (getP_as gs) ?_
          |refine ko_rT j0 ?_
          |refine ko_sF j0 ?_
          |refine plan_as (pick_t j0) ?_
          |refine bool_true j0 ?_
          |refine ko_rT j1 ?_
          |refine ko_sF j1 ?_
          |refine plan_as (pick_t j1) ?_
          |refine bool_true j1 ?_
          |refine ko_rT d0 ?_
          |refine ko_sF d0 ?_
          |refine plan_as (pick_t d0) ?_
          |refine bool_true d0 ?_
          |refine ko_rT d1 ?_
          |refine ko_sF d1 ?_
          |refine plan_as (pick_t d1) ?_
          |refine bool_true d1 ?_
          |refine ko_rT b0 ?_
          |refine ko_sF b0 ?_
          |refine plan_as (pick_t b0) ?_
          |refine bool_true b0 ?_
          |refine sym_drawn hS (by kernel_rfl) ?_); conv => whnf)
         refine set_sym gf ?_
         conv => whnf
         repeat ((first
          |refine plan_as (getP_as gf) ?_
          |refine plan_as (getP_as gs) ?_
          |refine ko_rT j0 ?_
          |refine ko_sF j0 ?_
          |refine plan_as (pick_t j0) ?_
          |refine bool_true j0 ?_
          |refine ko_rT j1 ?_
          |refine ko_sF j1 ?_
          |refine plan_as (pick_t j1) ?_
          |refine bool_true j1 ?_
          |refine ko_rT d0 ?_
          |refine ko_sF d0 ?_
          |refine plan_as (pick_t d0) ?_
          |refine bool_true d0 ?_
          |refine ko_rT d1 ?_
          |refine ko_sF d1 ?_
          |refine plan_as (pick_t d1) ?_
          |refine bool_true d1 ?_
          |refine ko_rT b1 ?_
          |refine ko_sF b1 ?_
          |refine plan_as (pick_t b1) ?_
          |refine bool_true b1 ?_
          |refine sym_drawn hS (by kernel_rfl) ?_); conv => whnf)
         refine set_sym P.1 ?_
         conv => whnf
         refine sym_drawn hS (by kernel_rfl) ?_
         conv => whnf
         exact ⟨(i + 1, _, _), ⟨hi2, P.2⟩, by show L.length - (i + 1) < L.length - i; omega, Nat.le_refl _, (by refine ⟨rfl, rfl, rfl, rfl, rfl, rfl, 1, rfl, ?_, ?_⟩ <;> repeat' (first | exact trivial | exact rfl | exact ⟨_, rfl, WkV.refl _⟩ | exact ⟨_, rfl, WkV.own _ _ _⟩ | exact Nat.zero_le _ | exact ⟨_, rfl, WkV.int (show IntKind.i64.wrap (Int.ofNat i + 1) = Int.ofNat (i + 1) from wrapN (m := i + 1) (by omega))⟩ | exact bdl_no lL | exact bdT_ivs P.2.c | exact Nat.le_of_ble_eq_true rfl | exact bdl_no (by assumption) | exact bdl_no (flat_no _) | exact bdl_no (ivs_no _) | exact bdl_no (svs_no _) | exact Nat.max_le.2 ⟨Nat.le_of_ble_eq_true rfl, bdl_no (ivs_no _)⟩ | exact Nat.max_le.2 ⟨Nat.le_of_ble_eq_true rfl, bdl_no (svs_no _)⟩ | apply And.intro))⟩
        ·rw [decide_eq_false q6] at p5
         repeat ((first
          |refine plan_as (nthP n0) ?_
          |refine plan_as (nthP n1) ?_
          |refine plan_as (takP t5) ?_
          |refine ko_sT c0 ?_
          |refine ko_rF c0 ?_
          |refine plan_as (pick_f c0) ?_
          |refine bool_false c0 ?_
          |refine ko_rT (gff c0) ?_
          |refine ko_sF (gff c0) ?_
          |refine plan_as (pick_t (gff c0)) ?_
          |refine bool_true (gff c0) ?_
          |refine ko_sT c1 ?_
          |refine ko_rF c1 ?_
          |refine plan_as (pick_f c1) ?_
          |refine bool_false c1 ?_
          |refine ko_rT (gff c1) ?_
          |refine ko_sF (gff c1) ?_
          |refine plan_as (pick_t (gff c1)) ?_
          |refine bool_true (gff c1) ?_
          |refine ko_rT i0 ?_
          |refine ko_sF i0 ?_
          |refine plan_as (pick_t i0) ?_
          |refine bool_true i0 ?_
          |refine ko_sT c2 ?_
          |refine ko_rF c2 ?_
          |refine plan_as (pick_f c2) ?_
          |refine bool_false c2 ?_
          |refine ko_rT (gff c2) ?_
          |refine ko_sF (gff c2) ?_
          |refine plan_as (pick_t (gff c2)) ?_
          |refine bool_true (gff c2) ?_
          |refine ko_rT i1 ?_
          |refine ko_sF i1 ?_
          |refine plan_as (pick_t i1) ?_
          |refine bool_true i1 ?_
          |refine ko_sT c3 ?_
          |refine ko_rF c3 ?_
          |refine plan_as (pick_f c3) ?_
          |refine bool_false c3 ?_
          |refine ko_rT (gff c3) ?_
          |refine ko_sF (gff c3) ?_
          |refine plan_as (pick_t (gff c3)) ?_
          |refine bool_true (gff c3) ?_
          |refine ko_sT c4 ?_
          |refine ko_rF c4 ?_
          |refine plan_as (pick_f c4) ?_
          |refine bool_false c4 ?_
          |refine ko_rT (gff c4) ?_
          |refine ko_sF (gff c4) ?_
          |refine plan_as (pick_t (gff c4)) ?_
          |refine bool_true (gff c4) ?_
          |refine ko_rT c5 ?_
          |refine ko_sF c5 ?_
          |refine plan_as (pick_t c5) ?_
          |refine bool_true c5 ?_
          |refine ko_rT (gd_tt c5) ?_
          |refine ko_sF (gd_tt c5) ?_
          |refine plan_as (pick_t (gd_tt c5)) ?_
          |refine bool_true (gd_tt c5) ?_
          |refine ko_rT i5 ?_
          |refine ko_sF i5 ?_
          |refine plan_as (pick_t i5) ?_
          |refine bool_true i5 ?_
          |refine sym_pure hC (p0) ?_
          |refine sym_pure hC (p1) ?_
          |refine sym_pure hC (p2) ?_
          |refine sym_pure hC (p5) ?_
          |refine sym_drawn hS (by kernel_rfl) ?_); conv => whnf)
         refine ⟨_, rfl, ?_⟩
         rw [hbad fun z => q6 (z.2.2.2.2.2 q5)]
         exact FzV.no (v := .bool false) trivial
       ·have c5 : decide (Int.ofNat i > 0) = false := decide_eq_false fun z => q5 (Int.ofNat_lt.1 z)
        have hst : stE b L i := ⟨q0, q1, by omega, by omega, q4, fun z => absurd z q5⟩
        repeat ((first
         |refine plan_as (nthP n0) ?_
         |refine plan_as (nthP n1) ?_
         |refine ko_sT c0 ?_
         |refine ko_rF c0 ?_
         |refine plan_as (pick_f c0) ?_
         |refine bool_false c0 ?_
         |refine ko_rT (gff c0) ?_
         |refine ko_sF (gff c0) ?_
         |refine plan_as (pick_t (gff c0)) ?_
         |refine bool_true (gff c0) ?_
         |refine ko_sT c1 ?_
         |refine ko_rF c1 ?_
         |refine plan_as (pick_f c1) ?_
         |refine bool_false c1 ?_
         |refine ko_rT (gff c1) ?_
         |refine ko_sF (gff c1) ?_
         |refine plan_as (pick_t (gff c1)) ?_
         |refine bool_true (gff c1) ?_
         |refine ko_rT i0 ?_
         |refine ko_sF i0 ?_
         |refine plan_as (pick_t i0) ?_
         |refine bool_true i0 ?_
         |refine ko_sT c2 ?_
         |refine ko_rF c2 ?_
         |refine plan_as (pick_f c2) ?_
         |refine bool_false c2 ?_
         |refine ko_rT (gff c2) ?_
         |refine ko_sF (gff c2) ?_
         |refine plan_as (pick_t (gff c2)) ?_
         |refine bool_true (gff c2) ?_
         |refine ko_rT i1 ?_
         |refine ko_sF i1 ?_
         |refine plan_as (pick_t i1) ?_
         |refine bool_true i1 ?_
         |refine ko_sT c3 ?_
         |refine ko_rF c3 ?_
         |refine plan_as (pick_f c3) ?_
         |refine bool_false c3 ?_
         |refine ko_rT (gff c3) ?_
         |refine ko_sF (gff c3) ?_
         |refine plan_as (pick_t (gff c3)) ?_
         |refine bool_true (gff c3) ?_
         |refine ko_sT c4 ?_
         |refine ko_rF c4 ?_
         |refine plan_as (pick_f c4) ?_
         |refine bool_false c4 ?_
         |refine ko_rT (gff c4) ?_
         |refine ko_sF (gff c4) ?_
         |refine plan_as (pick_t (gff c4)) ?_
         |refine bool_true (gff c4) ?_
         |refine ko_sT c5 ?_
         |refine ko_rF c5 ?_
         |refine plan_as (pick_f c5) ?_
         |refine bool_false c5 ?_
         |refine ko_sT (gd_tf c5) ?_
         |refine ko_rF (gd_tf c5) ?_
         |refine plan_as (pick_f (gd_tf c5)) ?_
         |refine bool_false (gd_tf c5) ?_
         |refine sym_pure hC (p0) ?_
         |refine sym_pure hC (p1) ?_
         |refine sym_pure hC (p2) ?_
         |refine sym_drawn hS (by kernel_rfl) ?_); conv => whnf)
        have P := hI.step hl hbd hi2 hst hf hs hfk hsk hfs rfl rfl
        have gf := hI.get hfk
        have gs := hI.get hsk
        have j0 : inR (gL L i).1 (m + 1) = true := by rw [hf]; exact inR_t (by omega)
        have j1 : inR (gL L i).2.1 (m + 1) = true := by rw [hs]; exact inR_t (by omega)
        have d0 : decide (0 + (gL L i).1.toNat * 1 < m + 1) = true := decide_eq_true (by omega)
        have d1 : decide (0 + (gL L i).2.1.toNat * 1 < m + 1) = true := decide_eq_true (by omega)
        have b0 : Nat.ble (0 + (gL L i).1.toNat * 1 + 1) (m + 1) = true := Nat.ble_eq_true_of_le (by omega)
        have b1 : Nat.ble (0 + (gL L i).2.1.toNat * 1 + 1) (m + 1) = true := Nat.ble_eq_true_of_le (by omega)
        repeat ((first
         |refine plan_as (getP_as gf) ?_
         |refine plan_as (getP_as gs) ?_
         |refine ko_rT j0 ?_
         |refine ko_sF j0 ?_
         |refine plan_as (pick_t j0) ?_
         |refine bool_true j0 ?_
         |refine ko_rT j1 ?_
         |refine ko_sF j1 ?_
         |refine plan_as (pick_t j1) ?_
         |refine bool_true j1 ?_
         |refine ko_rT d0 ?_
         |refine ko_sF d0 ?_
         |refine plan_as (pick_t d0) ?_
         |refine bool_true d0 ?_
         |refine ko_rT d1 ?_
         |refine ko_sF d1 ?_
         |refine plan_as (pick_t d1) ?_
         |refine bool_true d1 ?_
         |refine ko_rT b0 ?_
         |refine ko_sF b0 ?_
         |refine plan_as (pick_t b0) ?_
         |refine bool_true b0 ?_
         |refine sym_drawn hS (by kernel_rfl) ?_); conv => whnf)
        refine set_sym gf ?_
        conv => whnf
        repeat ((first
         |refine plan_as (getP_as gf) ?_
         |refine plan_as (getP_as gs) ?_
         |refine ko_rT j0 ?_
         |refine ko_sF j0 ?_
         |refine plan_as (pick_t j0) ?_
         |refine bool_true j0 ?_
         |refine ko_rT j1 ?_
         |refine ko_sF j1 ?_
         |refine plan_as (pick_t j1) ?_
         |refine bool_true j1 ?_
         |refine ko_rT d0 ?_
         |refine ko_sF d0 ?_
         |refine plan_as (pick_t d0) ?_
         |refine bool_true d0 ?_
         |refine ko_rT d1 ?_
         |refine ko_sF d1 ?_
         |refine plan_as (pick_t d1) ?_
         |refine bool_true d1 ?_
         |refine ko_rT b1 ?_
         |refine ko_sF b1 ?_
         |refine plan_as (pick_t b1) ?_
         |refine bool_true b1 ?_
         |refine sym_drawn hS (by kernel_rfl) ?_); conv => whnf)
        refine set_sym P.1 ?_
        conv => whnf
        refine sym_drawn hS (by kernel_rfl) ?_
        conv => whnf
        exact ⟨(i + 1, _, _), ⟨hi2, P.2⟩, by show L.length - (i + 1) < L.length - i; omega, Nat.le_refl _, (by refine ⟨rfl, rfl, rfl, rfl, rfl, rfl, 1, rfl, ?_, ?_⟩ <;> repeat' (first | exact trivial | exact rfl | exact ⟨_, rfl, WkV.refl _⟩ | exact ⟨_, rfl, WkV.own _ _ _⟩ | exact Nat.zero_le _ | exact ⟨_, rfl, WkV.int (show IntKind.i64.wrap (Int.ofNat i + 1) = Int.ofNat (i + 1) from wrapN (m := i + 1) (by omega))⟩ | exact bdl_no lL | exact bdT_ivs P.2.c | exact Nat.le_of_ble_eq_true rfl | exact bdl_no (by assumption) | exact bdl_no (flat_no _) | exact bdl_no (ivs_no _) | exact bdl_no (svs_no _) | exact Nat.max_le.2 ⟨Nat.le_of_ble_eq_true rfl, bdl_no (ivs_no _)⟩ | exact Nat.max_le.2 ⟨Nat.le_of_ble_eq_true rfl, bdl_no (svs_no _)⟩ | apply And.intro))⟩
      ·have c4 : (!decide (1 ≤ (gL L i).2.2 ∧ (gL L i).2.2 ≤ 8000000)) = true := nt_f (decide_eq_false q4)
       repeat ((first
        |refine plan_as (nthP n0) ?_
        |refine plan_as (nthP n1) ?_
        |refine ko_sT c0 ?_
        |refine ko_rF c0 ?_
        |refine plan_as (pick_f c0) ?_
        |refine bool_false c0 ?_
        |refine ko_rT (gff c0) ?_
        |refine ko_sF (gff c0) ?_
        |refine plan_as (pick_t (gff c0)) ?_
        |refine bool_true (gff c0) ?_
        |refine ko_sT c1 ?_
        |refine ko_rF c1 ?_
        |refine plan_as (pick_f c1) ?_
        |refine bool_false c1 ?_
        |refine ko_rT (gff c1) ?_
        |refine ko_sF (gff c1) ?_
        |refine plan_as (pick_t (gff c1)) ?_
        |refine bool_true (gff c1) ?_
        |refine ko_rT i0 ?_
        |refine ko_sF i0 ?_
        |refine plan_as (pick_t i0) ?_
        |refine bool_true i0 ?_
        |refine ko_sT c2 ?_
        |refine ko_rF c2 ?_
        |refine plan_as (pick_f c2) ?_
        |refine bool_false c2 ?_
        |refine ko_rT (gff c2) ?_
        |refine ko_sF (gff c2) ?_
        |refine plan_as (pick_t (gff c2)) ?_
        |refine bool_true (gff c2) ?_
        |refine ko_rT i1 ?_
        |refine ko_sF i1 ?_
        |refine plan_as (pick_t i1) ?_
        |refine bool_true i1 ?_
        |refine ko_sT c3 ?_
        |refine ko_rF c3 ?_
        |refine plan_as (pick_f c3) ?_
        |refine bool_false c3 ?_
        |refine ko_rT (gff c3) ?_
        |refine ko_sF (gff c3) ?_
        |refine plan_as (pick_t (gff c3)) ?_
        |refine bool_true (gff c3) ?_
        |refine ko_rT c4 ?_
        |refine ko_sF c4 ?_
        |refine plan_as (pick_t c4) ?_
        |refine bool_true c4 ?_
        |refine ko_sT (gft c4) ?_
        |refine ko_rF (gft c4) ?_
        |refine plan_as (pick_f (gft c4)) ?_
        |refine bool_false (gft c4) ?_
        |refine sym_pure hC (p0) ?_
        |refine sym_pure hC (p1) ?_
        |refine sym_pure hC (p2) ?_
        |refine sym_drawn hS (by kernel_rfl) ?_); conv => whnf)
       refine ⟨_, rfl, ?_⟩
       rw [hbad fun z => q4 z.2.2.2.2.1]
       exact FzV.no (v := .bool false) trivial
   ·have c1 : (!decide (0 ≤ (gL L i).2.1 ∧ (gL L i).2.1 ≤ IntKind.i64.wrap ((b.length : Int) - 1))) = true := nt_f (decide_eq_false (by rw [hw]; exact q1))
    repeat ((first
     |refine ko_sT c0 ?_
     |refine ko_rF c0 ?_
     |refine plan_as (pick_f c0) ?_
     |refine bool_false c0 ?_
     |refine ko_rT (gff c0) ?_
     |refine ko_sF (gff c0) ?_
     |refine plan_as (pick_t (gff c0)) ?_
     |refine bool_true (gff c0) ?_
     |refine ko_rT c1 ?_
     |refine ko_sF c1 ?_
     |refine plan_as (pick_t c1) ?_
     |refine bool_true c1 ?_
     |refine ko_sT (gft c1) ?_
     |refine ko_rF (gft c1) ?_
     |refine plan_as (pick_f (gft c1)) ?_
     |refine bool_false (gft c1) ?_
     |refine sym_pure hC (p0) ?_
     |refine sym_pure hC (p1) ?_
     |refine sym_drawn hS (by kernel_rfl) ?_); conv => whnf)
    refine ⟨_, rfl, ?_⟩
    rw [hbad fun z => q1 z.2.1]
    exact FzV.no (v := .bool false) trivial
  ·have c0 : (!decide (0 ≤ (gL L i).1 ∧ (gL L i).1 ≤ IntKind.i64.wrap ((b.length : Int) - 1))) = true := nt_f (decide_eq_false (by rw [hw]; exact q0))
   repeat ((first
    |refine ko_rT c0 ?_
    |refine ko_sF c0 ?_
    |refine plan_as (pick_t c0) ?_
    |refine bool_true c0 ?_
    |refine ko_sT (gft c0) ?_
    |refine ko_rF (gft c0) ?_
    |refine plan_as (pick_f (gft c0)) ?_
    |refine bool_false (gft c0) ?_
    |refine sym_pure hC (p0) ?_
    |refine sym_drawn hS (by kernel_rfl) ?_); conv => whnf)
   refine ⟨_, rfl, ?_⟩
   rw [hbad fun z => q0 z.1]
   exact FzV.no (v := .bool false) trivial
 ·refine bool_false (ltN_f hi2) ?_
  conv => whnf
  refine .inl ?_
  conv => whnf
  have ei : i = L.length := by omega
  have hT := ei ▸ hI
  have hlt := hT.len
  refine sym_loopG hE hS (A := Nat) [5] (fun i => [(8, nv i)]) (fun _ => []) (fun _ => []) (fun i => i ≤ m + 1 ∧ ∀ j, j < i → lf.getD j 0 = 0) (fun i => m + 1 - i) 0 (Nat.le_of_ble_eq_true rfl) rfl (by refine ⟨rfl, rfl, rfl, rfl, rfl, rfl, 1, rfl, ?_, ?_⟩ <;> repeat' (first | exact trivial | exact rfl | exact ⟨_, rfl, WkV.refl _⟩ | exact ⟨_, rfl, WkV.own _ _ _⟩ | exact Nat.zero_le _ | exact bdT_ivs hT.c | exact Nat.le_of_ble_eq_true rfl | exact bdl_no (by assumption) | exact bdl_no (flat_no _) | exact bdl_no (ivs_no _) | exact bdl_no (svs_no _) | exact Nat.max_le.2 ⟨Nat.le_of_ble_eq_true rfl, bdl_no (ivs_no _)⟩ | exact Nat.max_le.2 ⟨Nat.le_of_ble_eq_true rfl, bdl_no (svs_no _)⟩ | apply And.intro)) ⟨Nat.zero_le _, fun _ h => absurd h (Nat.not_lt_zero _)⟩ ?_
  rintro i ⟨hi, hj⟩ Q hQ
  obtain rfl : Q = 1 := hQ
  conv => whnf
  by_cases hi2 : i < m + 1
  ·have gi := hT.get (a := i) (by omega)
   have di : decide (0 + i * 1 < m + 1) = true := decide_eq_true (by omega)
   by_cases c : lf.getD i 0 = 0
   ·have c0 : (lf.getD i 0 != 0) = false := by rw [c]; rfl
    repeat ((first
     |refine plan_as (getP_as gi) ?_
     |refine ko_rT (ltN_t hi2) ?_
     |refine ko_sF (ltN_t hi2) ?_
     |refine plan_as (pick_t (ltN_t hi2)) ?_
     |refine bool_true (ltN_t hi2) ?_
     |refine ko_sT (ltN_t hi2) ?_
     |refine ko_rF (ltN_t hi2) ?_
     |refine plan_as (pick_f (ltN_t hi2)) ?_
     |refine bool_false (ltN_t hi2) ?_
     |refine ko_rT (inR_t hi2) ?_
     |refine ko_sF (inR_t hi2) ?_
     |refine plan_as (pick_t (inR_t hi2)) ?_
     |refine bool_true (inR_t hi2) ?_
     |refine ko_rT di ?_
     |refine ko_sF di ?_
     |refine plan_as (pick_t di) ?_
     |refine bool_true di ?_
     |refine ko_sT c0 ?_
     |refine ko_rF c0 ?_
     |refine plan_as (pick_f c0) ?_
     |refine bool_false c0 ?_
     |refine sym_drawn hS (by kernel_rfl) ?_); conv => whnf)
    exact ⟨i + 1, ⟨hi2, fun j h => by
     by_cases e : j = i
     ·rw [e]; exact c
     ·exact hj j (by omega)⟩, by omega, Nat.le_refl _, (by refine ⟨rfl, rfl, rfl, rfl, rfl, rfl, 1, rfl, ?_, ?_⟩ <;> repeat' (first | exact trivial | exact rfl | exact ⟨_, rfl, WkV.refl _⟩ | exact ⟨_, rfl, WkV.own _ _ _⟩ | exact Nat.zero_le _ | exact ⟨_, rfl, WkV.int (show IntKind.i64.wrap (Int.ofNat i + 1) = Int.ofNat (i + 1) from wrapN (m := i + 1) (by omega))⟩ | exact bdT_ivs hT.c | exact Nat.le_of_ble_eq_true rfl | exact bdl_no (by assumption) | exact bdl_no (flat_no _) | exact bdl_no (ivs_no _) | exact bdl_no (svs_no _) | exact Nat.max_le.2 ⟨Nat.le_of_ble_eq_true rfl, bdl_no (ivs_no _)⟩ | exact Nat.max_le.2 ⟨Nat.le_of_ble_eq_true rfl, bdl_no (svs_no _)⟩ | apply And.intro))⟩
   ·have c0 : (lf.getD i 0 != 0) = true := bne_iff_ne.2 c
    repeat ((first
     |refine plan_as (getP_as gi) ?_
     |refine ko_rT (ltN_t hi2) ?_
     |refine ko_sF (ltN_t hi2) ?_
     |refine plan_as (pick_t (ltN_t hi2)) ?_
     |refine bool_true (ltN_t hi2) ?_
     |refine ko_sT (ltN_t hi2) ?_
     |refine ko_rF (ltN_t hi2) ?_
     |refine plan_as (pick_f (ltN_t hi2)) ?_
     |refine bool_false (ltN_t hi2) ?_
     |refine ko_rT (inR_t hi2) ?_
     |refine ko_sF (inR_t hi2) ?_
     |refine plan_as (pick_t (inR_t hi2)) ?_
     |refine bool_true (inR_t hi2) ?_
     |refine ko_rT di ?_
     |refine ko_sF di ?_
     |refine plan_as (pick_t di) ?_
     |refine bool_true di ?_
     |refine ko_rT c0 ?_
     |refine ko_sF c0 ?_
     |refine plan_as (pick_t c0) ?_
     |refine bool_true c0 ?_
     |refine sym_drawn hS (by kernel_rfl) ?_); conv => whnf)
    refine ⟨_, rfl, ?_⟩
    rw [show B = false from Bool.eq_false_iff.2 fun z => c (by rw [hT.v i (by omega), List.take_of_length_le (Nat.le_refl _)]; exact (hB.1 z).2 i (by omega))]
    exact FzV.no (v := .bool false) trivial
  ·refine bool_false (ltN_f hi2) ?_
   conv => whnf
   refine .inl ?_
   conv => whnf
   refine ⟨_, rfl, ?_⟩
   rw [hB.2 ⟨hT.e, fun a ha => by
    have := hj a (by omega)
    rw [hT.v a (by omega), List.take_of_length_le (Nat.le_refl _)] at this
    exact this⟩]
   exact FzV.no (v := .bool true) trivial
theorem rStl_pure {b : List Int} (hk5 : 2 ≤ b.length ∧ b.length ≤ 5) (hbd : ∀ a, a < b.length → - 8000000 ≤ b.getD a 0 ∧ b.getD a 0 ≤ 8000000) {x : AV} {L : List LkI} (hx : LL x L) (hl : L.length ≤ 10) {B : Bool} (hB : B = true ↔ stP b L) : Pure prog 21 [nl b, x] (.bool B) := by
 rcases hx with ⟨rfl, rfl⟩ | rfl
 ·exact rSet_nil hk5 hB
 ·exact rSet_L hk5 hbd hl hB
end
end Go.Abs.Seat
