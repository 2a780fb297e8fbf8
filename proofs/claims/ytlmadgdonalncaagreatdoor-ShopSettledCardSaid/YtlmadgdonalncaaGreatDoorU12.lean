/-
  Books of accounts: the earlier of two settlements, the best of some.
-/
import Derived.Test.YtlmadgdonalncaaGreatDoorB58
import Derived.Test.YtlmadgdonalncaaGreatDoorU7
/-! Books of accounts: the earlier of two settlements, the best of some. -/
namespace Go.Abs.Seat
noncomputable section
open Go Go.Abs Go.Proofs.Tryz
set_option maxRecDepth 100000
set_option maxHeartbeats 40000000
attribute [local irreducible] IntKind.wrap pEq

theorem settled_nil {b : List Int} (hb : b.length ≤ 5) (hb2 : 2 ≤ b.length) {z : Bool} (hz : z = true ↔ ∀ j, j < b.length → b.getD j 0 = 0) : Pure prog 64 [nl b, .nils] (.tup [.nils, .bool z]) := by
 have ll := ivs_no b
 have l1 := ivs_len b
 obtain ⟨m, hm⟩ : ∃ m, b.length = m + 1 := ⟨b.length - 1, by omega⟩
 refine pure_symF (hEM muS) rfl (by repeat' (first | exact trivial | assumption | exact flat_no _ | exact (fun _ h => nomatch h) | apply And.intro)) (by repeat' (first | exact trivial | assumption | exact flat_no _ | exact (fun _ h => nomatch h) | apply And.intro)) fun S q pc hS hq hC hE => ?_
 conv => whnf
 refine sym_call hC ?_
 conv => whnf
 refine sym_inline hE hS ?_
 conv => whnf
 refine sym_eq hq false rfl ?_
 conv => whnf
 refine plan_as (pSrc_eq (e := 3) (ys := ivs b) (m := b.length) (own := .no) (l := ivs b) (by kernel_rfl) rfl (takeN_ivs _)) ?_
 rw [hm]
 conv => whnf
 refine bool_true (allCells_ivs b) ?_
 conv => whnf
 refine bool_true (decide_eq_true (show (0 + (m + 1)) * 8 ≤ 140737488355328 by omega)) ?_
 conv => whnf
 refine bool_true (decide_eq_true (show 0 + (m + 1) ≤ 9223372036854775807 by omega)) ?_
 conv => whnf
 refine newl_sym (l1.trans hm) ?_
 intro t1 ht1
 have ht1 : ∀ j, t1.get j = (ivs b)[j]? := ht1
 conv => whnf
 refine sym_call hC ?_
 conv => whnf
 refine sym_inline hE hS ?_
 conv => whnf
 refine sym_eq hq true rfl ?_
 conv => whnf
 refine sym_unroll hE hS ?_
 conv => whnf
 refine sym_call hC ?_
 conv => whnf
 refine sym_inline hE hS ?_
 conv => whnf
 refine sym_call hC ?_
 conv => whnf
 refine sym_inline hE hS ?_
 conv => whnf
 refine sym_loopG hE hS (A := Nat) [0, 1, 6, 7] (fun i => [(8, nv i)]) (fun _ => []) (fun _ => []) (fun i => i ≤ 0 + (m + 1) ∧ ∀ j, j < i → b.getD j 0 = 0) (fun i => 0 + (m + 1) - i) 0 (Nat.le_of_ble_eq_true rfl) rfl (by refine ⟨rfl, rfl, rfl, rfl, rfl, rfl, 1, rfl, ?_, ?_⟩ <;> repeat' (first | exact trivial | exact rfl | exact ⟨_, rfl, WkV.refl _⟩ | exact ⟨_, rfl, WkV.own _ _ _⟩ | exact Nat.zero_le _ | exact bdT_ivs ht1 | exact Nat.le_of_ble_eq_true rfl | exact bdl_no (by assumption) | exact bdl_no (flat_no _) | exact bdl_no (ivs_no _) | exact bdl_no (svs_no _) | exact Nat.max_le.2 ⟨Nat.le_of_ble_eq_true rfl, bdl_no (ivs_no _)⟩ | exact Nat.max_le.2 ⟨Nat.le_of_ble_eq_true rfl, bdl_no (svs_no _)⟩ | apply And.intro)) ⟨Nat.zero_le _, fun _ h => absurd h (Nat.not_lt_zero _)⟩ ?_
 rintro i ⟨hi, hj⟩ K hK
 obtain rfl : K = 1 := hK
 conv => whnf
 by_cases hi2 : i < 0 + (m + 1)
 ·have gi : t1.get (0 + i * 1) = some (iv (b.getD i 0)) := by rw [ht1, show 0 + i * 1 = i by omega, ivs_getD (l := b) (by omega)]
  repeat ((first
   |refine plan_as (getP_as gi) ?_
   |refine ko_rT (ltN_t hi2) ?_
   |refine ko_sF (ltN_t hi2) ?_
   |refine plan_as (pick_t (ltN_t hi2)) ?_
   |refine bool_true (ltN_t hi2) ?_
   |refine ko_sT (ltN_t hi2) ?_
   |refine ko_rF (ltN_t hi2) ?_
   |refine plan_as (pick_f (ltN_t hi2)) ?_
   |refine bool_false (ltN_t hi2) ?_
   |refine ko_rT (inR_t hi2) ?_
   |refine ko_sF (inR_t hi2) ?_
   |refine plan_as (pick_t (inR_t hi2)) ?_
   |refine bool_true (inR_t hi2) ?_
   |refine ko_rT (decide_eq_true (show 0 + i * 1 < m + 1 by omega)) ?_
   |refine ko_sF (decide_eq_true (show 0 + i * 1 < m + 1 by omega)) ?_
   |refine plan_as (pick_t (decide_eq_true (show 0 + i * 1 < m + 1 by omega))) ?_
   |refine bool_true (decide_eq_true (show 0 + i * 1 < m + 1 by omega)) ?_
   |refine sym_drawn hS (by kernel_rfl) ?_); conv => whnf)
  refine sym_call hC ?_
  conv => whnf
  refine sym_inline hE hS ?_
  conv => whnf
  by_cases c : b.getD i 0 = 0
  ·have c0 : (b.getD i 0 != 0) = false := by rw [c]; rfl
   repeat ((first
    |refine ko_sT c0 ?_
    |refine ko_rF c0 ?_
    |refine plan_as (pick_f c0) ?_
    |refine bool_false c0 ?_
    |refine sym_drawn hS (by kernel_rfl) ?_); conv => whnf)
   exact ⟨i + 1, ⟨by omega, fun j h => by
    by_cases e : j = i
    ·rw [e]; exact c
    ·exact hj j (by omega)⟩, by omega, Nat.le_refl _, (by refine ⟨rfl, rfl, rfl, rfl, rfl, rfl, 1, rfl, ?_, ?_⟩ <;> repeat' (first | exact trivial | exact rfl | exact ⟨_, rfl, WkV.refl _⟩ | exact ⟨_, rfl, WkV.own _ _ _⟩ | exact Nat.zero_le _ | exact ⟨_, rfl, WkV.int (show IntKind.i64.wrap (Int.ofNat i + 1) = Int.ofNat (i + 1) from wrapN (m := i + 1) (by omega))⟩ | exact bdT_ivs ht1 | exact Nat.le_of_ble_eq_true rfl | exact bdl_no (by assumption) | exact bdl_no (flat_no _) | exact bdl_no (ivs_no _) | exact bdl_no (svs_no _) | exact Nat.max_le.2 ⟨Nat.le_of_ble_eq_true rfl, bdl_no (ivs_no _)⟩ | exact Nat.max_le.2 ⟨Nat.le_of_ble_eq_true rfl, bdl_no (svs_no _)⟩ | apply And.intro))⟩
  ·have c0 : (b.getD i 0 != 0) = true := bne_iff_ne.2 c
   repeat ((first
    |refine ko_rT c0 ?_
    |refine ko_sF c0 ?_
    |refine plan_as (pick_t c0) ?_
    |refine bool_true c0 ?_
    |refine sym_drawn hS (by kernel_rfl) ?_); conv => whnf)
   refine ⟨_, rfl, ?_⟩
   have z0 : z = false := Bool.eq_false_iff.2 fun k => c (hz.1 k i (by omega))
   rw [z0, decide_eq_true (show Int.ofNat i ≥ 0 from Int.natCast_nonneg i)]
   exact FzV.no (v := .tup [.nils, .bool false]) ⟨trivial, trivial, trivial⟩
 ·refine bool_false (ltN_f hi2) ?_
  conv => whnf
  refine .inl ?_
  conv => whnf
  refine ⟨_, rfl, ?_⟩
  rw [hz.2 fun j h => hj j (by omega)]
  exact FzV.no (v := .tup [.nils, .bool true]) ⟨trivial, trivial, trivial⟩
def ordE (x y : LkI) : Int := if ordI x.1 y.1 = 0 then ordI x.2.1 y.2.1 else ordI x.1 y.1
def lexE : List LkI → List LkI → Int
 | [], [] => 0
 | [], _ :: _ => -1
 | _ :: _, [] => 1
 |x :: A, y :: B => if ordE x y = 0 then lexE A B else ordE x y
theorem ordJ_lt (a b : Int) : ordI a b < 0 ↔ a < b := by unfold ordI; split <;> (try split) <;> omega
theorem ordJ_z (a b : Int) : ordI a b = 0 ↔ a = b := by unfold ordI; split <;> (try split) <;> omega
theorem ordE_lt (x y : LkI) : ordE x y < 0 ↔ elP x y := by
 unfold ordE elP
 by_cases e : ordI x.1 y.1 = 0
 ·rw [if_pos e, ordJ_lt]
  have := (ordJ_z _ _).1 e
  omega
 ·rw [if_neg e, ordJ_lt]
  have : x.1 ≠ y.1 := fun k => e ((ordJ_z _ _).2 k)
  omega
theorem ordE_z (x y : LkI) : ordE x y = 0 ↔ x.1 = y.1 ∧ x.2.1 = y.2.1 := by
 unfold ordE
 by_cases e : ordI x.1 y.1 = 0
 ·rw [if_pos e, ordJ_z]
  have := (ordJ_z _ _).1 e
  omega
 ·rw [if_neg e]
  have : x.1 ≠ y.1 := fun k => e ((ordJ_z _ _).2 k)
  omega
theorem lexE_lt : ∀ A B : List LkI, lexE A B < 0 ↔ lxP A B
 | [], [] => by simp [lexE, lxP]
 | [], _ :: _ => by simp [lexE, lxP]
 | _ :: _, [] => by simp [lexE, lxP]
 |x :: A, y :: B => by
  rw [lexE, lxP, ← lexE_lt A B, ← ordE_lt]
  by_cases e : ordE x y = 0
  ·rw [if_pos e]
   have := (ordE_z _ _).1 e
   omega
  ·rw [if_neg e]
   have : ¬ (x.1 = y.1 ∧ x.2.1 = y.2.1) := fun k => e ((ordE_z _ _).2 k)
   omega
theorem ord_pure (x y : LkI) : Pure prog 127 [.agg [iv x.1, iv x.2.1, iv x.2.2], .agg [iv y.1, iv y.2.1, iv y.2.2]] (iv (ordE x y)) := by
 refine pure_sym hE rfl (by repeat' (first | exact trivial | assumption | exact flat_no _ | exact (fun _ h => nomatch h) | apply And.intro)) (by repeat' (first | exact trivial | assumption | exact flat_no _ | exact (fun _ h => nomatch h) | apply And.intro)) fun S q pc hS hq hC hE => ?_
 conv => whnf
 refine sym_pure hC (cmp_pure x.1 y.1) ?_
 conv => whnf
 refine sym_pure hC (cmp_pure x.2.1 y.2.1) ?_
 conv => whnf
 refine sym_pure hC (or_pure (ordI x.1 y.1) (ordI x.2.1 y.2.1)) ?_
 conv => whnf
 refine sym_drawn hS (by kernel_rfl) ?_
 conv => whnf
 exact ⟨_, rfl, Wk.refl _⟩
theorem cmpE_pure (A B : List LkI) (hA : A.length ≤ 1000) : Pure prog 126 [lkA A, lkA B, .func (.func 127) [] []] (iv (lexE A B)) := by
 have lA := lks_no A
 have lB := lks_no B
 refine pure_sym hE rfl (by repeat' (first | exact trivial | assumption | exact flat_no _ | exact (fun _ h => nomatch h) | apply And.intro)) (by repeat' (first | exact trivial | assumption | exact flat_no _ | exact (fun _ h => nomatch h) | apply And.intro)) fun S q pc hS hq hC hE => ?_
 conv => whnf
 refine sym_loopG hE hS (A := Nat) [0, 1, 2, 11, 12] (fun i => [(13, nv i)]) (fun _ => []) (fun _ => []) (fun i => i ≤ A.length ∧ i ≤ B.length ∧ lexE (A.drop i) (B.drop i) = lexE A B) (fun i => A.length - i) 0 (Nat.le_of_ble_eq_true rfl) rfl (by refine ⟨rfl, rfl, rfl, rfl, rfl, rfl, 0, rfl, ?_, ?_⟩ <;> repeat' (first | exact trivial | exact rfl | exact ⟨_, rfl, WkV.refl _⟩ | exact ⟨_, rfl, WkV.own _ _ _⟩ | exact Nat.zero_le _ | exact bdl_no lA | exact bdl_no lB | exact Nat.le_of_ble_eq_true rfl | exact bdl_no (by assumption) | exact bdl_no (flat_no _) | exact bdl_no (ivs_no _) | exact bdl_no (svs_no _) | exact Nat.max_le.2 ⟨Nat.le_of_ble_eq_true rfl, bdl_no (ivs_no _)⟩ | exact Nat.max_le.2 ⟨Nat.le_of_ble_eq_true rfl, bdl_no (svs_no _)⟩ | apply And.intro)) ⟨Nat.zero_le _, Nat.zero_le _, rfl⟩ ?_
 intro i ⟨hi, hi2, he⟩ K hK
 obtain rfl : K = 0 := hK
 have hi1 : i < A.length → IntKind.i64.wrap (Int.ofNat i + 1) = Int.ofNat (i + 1) := fun h => wrapN (m := i + 1) (by omega)
 conv => whnf
 by_cases h : i < A.length
 ·have hi1 := hi1 h
  refine bool_true (ltN_t h) ?_
  conv => whnf
  refine bool_true (inR_t h) ?_
  conv => whnf
  refine plan_as (takP (tak_lk A h)) ?_
  conv => whnf
  rw [drop_gL A h] at he
  by_cases h2 : i < B.length
  ·refine bool_false ((show decide (Int.ofNat i ≥ (B.length : Int)) = false from decide_eq_false (by show ¬ ((B.length : Int) ≤ (i : Int)); omega))) ?_
   conv => whnf
   refine bool_true (inR_t h2) ?_
   conv => whnf
   refine plan_as (takP (tak_lk B h2)) ?_
   conv => whnf
   rw [drop_gL B h2, lexE] at he
   refine sym_pure hC (ord_pure (gL A i) (gL B i)) ?_
   conv => whnf
   by_cases h3 : ordE (gL A i) (gL B i) = 0
   ·refine bool_false ((show (ordE (gL A i) (gL B i) != 0) = false by rw [h3]; rfl)) ?_
    conv => whnf
    rw [if_pos h3] at he
    exact ⟨i + 1, ⟨h, h2, he⟩, by omega, Nat.le_refl _, (by refine ⟨rfl, rfl, rfl, rfl, rfl, rfl, 0, rfl, ?_, ?_⟩ <;> repeat' (first | exact trivial | exact rfl | exact ⟨_, rfl, WkV.refl _⟩ | exact ⟨_, rfl, WkV.own _ _ _⟩ | exact Nat.zero_le _ | exact ⟨_, rfl, WkV.int hi1⟩ | exact bdl_no lA | exact bdl_no lB | exact Nat.le_of_ble_eq_true rfl | exact bdl_no (by assumption) | exact bdl_no (flat_no _) | exact bdl_no (ivs_no _) | exact bdl_no (svs_no _) | exact Nat.max_le.2 ⟨Nat.le_of_ble_eq_true rfl, bdl_no (ivs_no _)⟩ | exact Nat.max_le.2 ⟨Nat.le_of_ble_eq_true rfl, bdl_no (svs_no _)⟩ | apply And.intro))⟩
   ·refine bool_true ((show (ordE (gL A i) (gL B i) != 0) = true from bne_iff_ne.2 h3)) ?_
    conv => whnf
    rw [if_neg h3] at he
    rw [← he]
    exact ⟨_, rfl, Wk.refl _⟩
  ·refine bool_true ((show decide (Int.ofNat i ≥ (B.length : Int)) = true from decide_eq_true (by show ((B.length : Int) ≤ (i : Int)); omega))) ?_
   conv => whnf
   rw [(List.drop_eq_nil_of_le (by omega) : B.drop i = []), lexE] at he
   rw [← he]
   exact ⟨_, rfl, Wk.refl _⟩
 ·refine bool_false (ltN_f h) ?_
  conv => whnf
  refine .inl ?_
  conv => whnf
  rw [(List.drop_eq_nil_of_le (by omega) : A.drop i = [])] at he
  by_cases h2 : A.length < B.length
  ·refine bool_true ((show decide ((A.length : Int) < (B.length : Int)) = true from decide_eq_true (by omega))) ?_
   conv => whnf
   rw [drop_gL B (by omega), lexE] at he
   rw [← he]
   exact ⟨_, rfl, Wk.refl _⟩
  ·refine bool_false ((show decide ((A.length : Int) < (B.length : Int)) = false from decide_eq_false (by omega))) ?_
   conv => whnf
   rw [(List.drop_eq_nil_of_le (by omega) : B.drop i = []), lexE] at he
   rw [← he]
   exact ⟨_, rfl, Wk.refl _⟩
theorem earlier_pure (A B : List LkI) (hA : A.length ≤ 1000) : Pure prog 66 [lkA A, lkA B] (.bool (decide (erP A B))) := by
 have lA := lks_no A
 have lB := lks_no B
 have e : decide (erP A B) = decide ((if ordI (A.length : Int) (B.length : Int) = 0 then lexE A B else ordI (A.length : Int) (B.length : Int)) < 0) := by
  refine decide_eq_decide.2 ?_
  unfold erP
  rw [← lexE_lt]
  by_cases z : ordI (A.length : Int) (B.length : Int) = 0
  ·rw [if_pos z]
   have := (ordJ_z _ _).1 z
   omega
  ·rw [if_neg z, ordJ_lt]
   have : (A.length : Int) ≠ B.length := fun k => z ((ordJ_z _ _).2 k)
   omega
 rw [e]
 refine pure_sym hE rfl (by repeat' (first | exact trivial | assumption | exact flat_no _ | exact (fun _ h => nomatch h) | apply And.intro)) (by repeat' (first | exact trivial | assumption | exact flat_no _ | exact (fun _ h => nomatch h) | apply And.intro)) fun S q pc hS hq hC hE => ?_
 conv => whnf
 refine sym_pure hC (cmp_pure (A.length : Int) (B.length : Int)) ?_
 conv => whnf
 refine sym_pure hC (cmpE_pure A B hA) ?_
 conv => whnf
 refine sym_pure hC (or_pure (ordI (A.length : Int) (B.length : Int)) (lexE A B)) ?_
 conv => whnf
 exact ⟨_, rfl, Wk.refl _⟩

def evs (l : List (List LkI)) : List AV := l.map lkA
theorem evs_no : ∀ l, Lives noL (evs l)
 | [] => trivial
 |x :: r => ⟨lkA_no x, evs_no r⟩
abbrev gV (l : List (List LkI)) (i : Nat) : List LkI := l.getD i []
theorem nth_evs : ∀ (l : List (List LkI)) (i : Nat), i < l.length → nth (evs l) (i * 1) = some (lkA (gV l i))
 | _ :: _, 0, _ => rfl
 | _ :: r, i + 1, h => by
  have := nth_evs r i (by simpa using h)
  rw [show (i + 1) * 1 = i * 1 + 1 by omega]; exact this
 | [], _, h => absurd h (Nat.not_lt_zero _)
theorem drop_gV (l : List (List LkI)) {i : Nat} (h : i < l.length) : l.drop i = gV l i :: l.drop (i + 1) := by
 rw [List.drop_eq_getElem_cons h]
 simp [gV, List.getD, h]
theorem gV_mem (l : List (List LkI)) {i : Nat} (h : i < l.length) : gV l i ∈ l := by
 have e : gV l i = l[i] := by simp [gV, List.getD, h]
 rw [e]; exact List.getElem_mem h
theorem bestE_pure {x : List LkI} {r : List (List LkI)} (hl : r.length ≤ 1073741824) (hx : ∀ y, y ∈ x :: r → y.length ≤ 1000) : Pure prog 65 [.lst (evs (x :: r)) (x :: r).length .no, .func (.func 66) [] []] (.tup [lkA (bsE x r), .bool true]) := by
 have lv := evs_no (x :: r)
 have lb := lkA_no (bsE x r)
 obtain ⟨l, hle⟩ : ∃ l, l = x :: r := ⟨_, rfl⟩
 rw [← hle] at hx lv ⊢
 have hll : 1 ≤ l.length ∧ l.length ≤ 1073741825 := by rw [hle, List.length_cons]; omega
 have hg0 : gV l 0 = x := by rw [hle]; rfl
 refine pure_sym hE rfl (by repeat' (first | exact trivial | assumption | exact flat_no _ | exact (fun _ h => nomatch h) | apply And.intro)) (by repeat' (first | exact trivial | assumption | exact flat_no _ | exact (fun _ h => nomatch h) | apply And.intro)) fun S q pc hS hq hC hE => ?_
 conv => whnf
 refine sym_loopG hE hS (A := Nat × AV) [0, 1, 9, 10] (fun (i, v) => [(6, v), (11, nv i)]) (fun _ => []) (fun _ => []) (fun (i, v) => i ≤ l.length ∧ (i = 0 ∧ v = .nils ∨ 1 ≤ i ∧ ∃ o, v = lkA o ∧ bsE o (l.drop i) = bsE x r)) (fun (i, _) => l.length - i) (0, .nils) (Nat.le_of_ble_eq_true rfl) rfl (by refine ⟨rfl, rfl, rfl, rfl, rfl, rfl, 0, rfl, ?_, ?_⟩ <;> repeat' (first | exact trivial | exact rfl | exact ⟨_, rfl, WkV.refl _⟩ | exact ⟨_, rfl, WkV.own _ _ _⟩ | exact Nat.zero_le _ | exact bdl_no lv | exact Nat.le_of_ble_eq_true rfl | exact bdl_no (by assumption) | exact bdl_no (flat_no _) | exact bdl_no (ivs_no _) | exact bdl_no (svs_no _) | exact Nat.max_le.2 ⟨Nat.le_of_ble_eq_true rfl, bdl_no (ivs_no _)⟩ | exact Nat.max_le.2 ⟨Nat.le_of_ble_eq_true rfl, bdl_no (svs_no _)⟩ | apply And.intro)) ⟨Nat.zero_le _, .inl ⟨rfl, rfl⟩⟩ ?_
 rintro ⟨i, v⟩ ⟨hi, hv⟩ K hK
 obtain rfl : K = 0 := hK
 have hi1 : i < l.length → IntKind.i64.wrap (Int.ofNat i + 1) = Int.ofNat (i + 1) := fun h => wrapN (m := i + 1) (by omega)
 rcases hv with ⟨rfl, rfl⟩ | ⟨h1, o, rfl, hb⟩
 ·have hi1 := hi1 (by omega)
  have h0 : 0 < l.length := by omega
  conv => whnf
  repeat ((first
   |refine plan_as (nthP (nth_evs l 0 h0)) ?_
   |refine ko_rT (ltN_t h0) ?_
   |refine ko_sF (ltN_t h0) ?_
   |refine plan_as (pick_t (ltN_t h0)) ?_
   |refine bool_true (ltN_t h0) ?_
   |refine ko_sT (ltN_t h0) ?_
   |refine ko_rF (ltN_t h0) ?_
   |refine plan_as (pick_f (ltN_t h0)) ?_
   |refine bool_false (ltN_t h0) ?_
   |refine ko_rT (inR_t h0) ?_
   |refine ko_sF (inR_t h0) ?_
   |refine plan_as (pick_t (inR_t h0)) ?_
   |refine bool_true (inR_t h0) ?_
   |refine sym_drawn hS (by kernel_rfl) ?_); conv => whnf)
  exact ⟨(1, lkA x), ⟨hll.1, .inr ⟨Nat.le_refl _, x, rfl, by rw [hle]; rfl⟩⟩, Nat.sub_lt_sub_left h0 Nat.one_pos, Nat.le_refl _, (by refine ⟨rfl, rfl, rfl, rfl, rfl, rfl, 0, rfl, ?_, ?_⟩ <;> repeat' (first | exact trivial | exact rfl | exact ⟨_, rfl, WkV.refl _⟩ | exact ⟨_, rfl, WkV.own _ _ _⟩ | exact Nat.zero_le _ | exact ⟨_, rfl, WkV.int hi1⟩ | exact ⟨_, rfl, WkV.eq (congrArg lkA hg0)⟩ | exact bdl_no lv | exact bdl_no (lks_no _) | exact Nat.le_of_ble_eq_true rfl | exact bdl_no (by assumption) | exact bdl_no (flat_no _) | exact bdl_no (ivs_no _) | exact bdl_no (svs_no _) | exact Nat.max_le.2 ⟨Nat.le_of_ble_eq_true rfl, bdl_no (ivs_no _)⟩ | exact Nat.max_le.2 ⟨Nat.le_of_ble_eq_true rfl, bdl_no (svs_no _)⟩ | apply And.intro))⟩
 ·conv => whnf
  by_cases hi2 : i < l.length
  ·have hi1 := hi1 hi2
   have hgl := hx _ (gV_mem l hi2)
   have c0 : (Int.ofNat i == 0) = false := beq_eq_false_iff_ne.2 fun z => by have : (i : Int) = 0 := z; omega
   rw [drop_gV l hi2, bsE] at hb
   have lo := lks_no o
   have lg := lks_no (gV l i)
   by_cases he : erP (gV l i) o
   ·rw [if_pos he] at hb
    have pE := earlier_pure (gV l i) o hgl
    rw [decide_eq_true he] at pE
    repeat ((first
     |refine plan_as (nthP (nth_evs l i hi2)) ?_
     |refine ko_rT (ltN_t hi2) ?_
     |refine ko_sF (ltN_t hi2) ?_
     |refine plan_as (pick_t (ltN_t hi2)) ?_
     |refine bool_true (ltN_t hi2) ?_
     |refine ko_sT (ltN_t hi2) ?_
     |refine ko_rF (ltN_t hi2) ?_
     |refine plan_as (pick_f (ltN_t hi2)) ?_
     |refine bool_false (ltN_t hi2) ?_
     |refine ko_rT (inR_t hi2) ?_
     |refine ko_sF (inR_t hi2) ?_
     |refine plan_as (pick_t (inR_t hi2)) ?_
     |refine bool_true (inR_t hi2) ?_
     |refine ko_sT c0 ?_
     |refine ko_rF c0 ?_
     |refine plan_as (pick_f c0) ?_
     |refine bool_false c0 ?_
     |refine ko_rT (gff c0) ?_
     |refine ko_sF (gff c0) ?_
     |refine plan_as (pick_t (gff c0)) ?_
     |refine bool_true (gff c0) ?_
     |refine sym_pure hC (pE) ?_
     |refine sym_drawn hS (by kernel_rfl) ?_); conv => whnf)
    exact ⟨(i + 1, lkA (gV l i)), ⟨hi2, .inr ⟨by omega, _, rfl, hb⟩⟩, by show l.length - (i + 1) < l.length - i; omega, Nat.le_refl _, (by refine ⟨rfl, rfl, rfl, rfl, rfl, rfl, 0, rfl, ?_, ?_⟩ <;> repeat' (first | exact trivial | exact rfl | exact ⟨_, rfl, WkV.refl _⟩ | exact ⟨_, rfl, WkV.own _ _ _⟩ | exact Nat.zero_le _ | exact ⟨_, rfl, WkV.int hi1⟩ | exact bdl_no lv | exact bdl_no (lks_no _) | exact Nat.le_of_ble_eq_true rfl | exact bdl_no (by assumption) | exact bdl_no (flat_no _) | exact bdl_no (ivs_no _) | exact bdl_no (svs_no _) | exact Nat.max_le.2 ⟨Nat.le_of_ble_eq_true rfl, bdl_no (ivs_no _)⟩ | exact Nat.max_le.2 ⟨Nat.le_of_ble_eq_true rfl, bdl_no (svs_no _)⟩ | apply And.intro))⟩
   ·rw [if_neg he] at hb
    have pE := earlier_pure (gV l i) o hgl
    rw [decide_eq_false he] at pE
    repeat ((first
     |refine plan_as (nthP (nth_evs l i hi2)) ?_
     |refine ko_rT (ltN_t hi2) ?_
     |refine ko_sF (ltN_t hi2) ?_
     |refine plan_as (pick_t (ltN_t hi2)) ?_
     |refine bool_true (ltN_t hi2) ?_
     |refine ko_sT (ltN_t hi2) ?_
     |refine ko_rF (ltN_t hi2) ?_
     |refine plan_as (pick_f (ltN_t hi2)) ?_
     |refine bool_false (ltN_t hi2) ?_
     |refine ko_rT (inR_t hi2) ?_
     |refine ko_sF (inR_t hi2) ?_
     |refine plan_as (pick_t (inR_t hi2)) ?_
     |refine bool_true (inR_t hi2) ?_
     |refine ko_sT c0 ?_
     |refine ko_rF c0 ?_
     |refine plan_as (pick_f c0) ?_
     |refine bool_false c0 ?_
     |refine ko_rT (gff c0) ?_
     |refine ko_sF (gff c0) ?_
     |refine plan_as (pick_t (gff c0)) ?_
     |refine bool_true (gff c0) ?_
     |refine sym_pure hC (pE) ?_
     |refine sym_drawn hS (by kernel_rfl) ?_); conv => whnf)
    exact ⟨(i + 1, lkA o), ⟨hi2, .inr ⟨by omega, _, rfl, hb⟩⟩, by show l.length - (i + 1) < l.length - i; omega, Nat.le_refl _, (by refine ⟨rfl, rfl, rfl, rfl, rfl, rfl, 0, rfl, ?_, ?_⟩ <;> repeat' (first | exact trivial | exact rfl | exact ⟨_, rfl, WkV.refl _⟩ | exact ⟨_, rfl, WkV.own _ _ _⟩ | exact Nat.zero_le _ | exact ⟨_, rfl, WkV.int hi1⟩ | exact bdl_no lv | exact bdl_no (lks_no _) | exact Nat.le_of_ble_eq_true rfl | exact bdl_no (by assumption) | exact bdl_no (flat_no _) | exact bdl_no (ivs_no _) | exact bdl_no (svs_no _) | exact Nat.max_le.2 ⟨Nat.le_of_ble_eq_true rfl, bdl_no (ivs_no _)⟩ | exact Nat.max_le.2 ⟨Nat.le_of_ble_eq_true rfl, bdl_no (svs_no _)⟩ | apply And.intro))⟩
  ·refine bool_false (ltN_f hi2) ?_
   conv => whnf
   refine .inl ?_
   conv => whnf
   rw [List.drop_eq_nil_of_le (by omega), bsE] at hb
   rw [← hb]
   rw [decide_eq_true (show (l.length : Int) > 0 by omega)]
   exact ⟨_, rfl, Wk.refl _⟩
theorem best_nil : Pure prog 65 [.lst [.nils] 1 .no, .func (.func 66) [] []] (.tup [.nils, .bool true]) := by
 refine pure_sym hE rfl (by repeat' (first | exact trivial | assumption | exact flat_no _ | exact (fun _ h => nomatch h) | apply And.intro)) (by repeat' (first | exact trivial | assumption | exact flat_no _ | exact (fun _ h => nomatch h) | apply And.intro)) fun S q pc hS hq hC hE => ?_
 conv => whnf
 refine sym_unroll hE hS ?_
 conv => whnf
 refine sym_unroll hE hS ?_
 conv => whnf
 refine bool_false (decide_eq_false (show ¬ IntKind.i64.wrap (0 + 1) < ((1 : Nat) : Int) by rw [show IntKind.i64.wrap (0 + 1) = 1 from wrapI (by decide) (by decide)]; decide)) ?_
 conv => whnf
 exact ⟨_, rfl, Wk.refl _⟩
end
end Go.Abs.Seat
