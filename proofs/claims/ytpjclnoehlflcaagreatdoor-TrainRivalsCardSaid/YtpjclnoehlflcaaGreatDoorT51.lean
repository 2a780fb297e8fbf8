/-
  The document's near: the fractions of products that come nearest.
-/
import Derived.Test.YtpjclnoehlflcaaGreatDoorU10
import Derived.Test.YtpjclnoehlflcaaGreatDoorT44
import Derived.Test.YtpjclnoehlflcaaGreatDoorU9
import Derived.Test.YtpjclnoehlflcaaGreatDoorU4
/-! The document's near: the fractions of products that come nearest. -/
namespace Go.Abs.Seat
noncomputable section
open Go Go.Abs Go.Proofs.Tryz
set_option maxRecDepth 100000
set_option maxHeartbeats 40000000
attribute [local irreducible] IntKind.wrap pEq

theorem cnt_mono (d : Nat) {w w' : Nat} (h : w ≤ w') : ∀ l, cntB d w l ≤ cntB d w' l
 | [] => Nat.le_refl _
 |y :: r => by
  rw [cntB, cntB]
  by_cases k : y * d < w
  ·rw [if_pos k, if_pos (by omega)]; exact Nat.succ_le_succ (cnt_mono d h r)
  ·rw [if_neg k]; exact Nat.zero_le _
theorem gd_tt {x : Nat} {c : Bool} (h : c = true) : @Bool.rec (fun _ => Bool) (@Bool.rec (fun _ => Bool) true false (x, true).snd) (x, true).snd c = true := by subst h; rfl
theorem gd_tf {x : Nat} {c : Bool} (h : c = false) : @Bool.rec (fun _ => Bool) (@Bool.rec (fun _ => Bool) true false (x, true).snd) (x, true).snd c = false := by subst h; rfl
def mnI (l : List Nat) (n d i : Nat) : Nat := min (cntB d (gn l i * n) l) (l.length - 1)
theorem mnI_mono {l : List Nat} (hs : Srt l) (n d : Nat) {i j : Nat} (h : i ≤ j) (hj : j < l.length) : mnI l n d i ≤ mnI l n d j := by
 unfold mnI
 have h1 : gn l i ≤ gn l j := by
  rcases Nat.eq_or_lt_of_le h with rfl | h
  ·exact Nat.le_refl _
  ·exact Nat.le_of_lt (hs i j h hj)
 have := cnt_mono d (Nat.mul_le_mul_right n h1) l
 omega
abbrev rR (l : List Nat) (n d i : Nat) : List (Nat × Nat) := (l.take i).flatMap (rcOf l n d)
theorem rR_next (l : List Nat) (n d : Nat) {i : Nat} (h : i < l.length) : rR l n d (i + 1) = rR l n d i ++ ((if 1 ≤ mnI l n d i then [(gn l (mnI l n d i - 1), gn l i)] else []) ++ [(gn l (mnI l n d i), gn l i)]) := by
 unfold rR
 rw [take_gn l h, List.flatMap_append]
 simp only [List.flatMap_cons, List.flatMap_nil, List.append_nil]
 rfl

theorem rR_len (l : List Nat) (n d i : Nat) : (rR l n d i).length ≤ 2 * l.length := by
 have h : ∀ m : List Nat, (m.flatMap (rcOf l n d)).length ≤ 2 * m.length := fun m => by
  induction m with
  |nil => exact Nat.le_refl _
  |cons x m ih =>
   rw [List.flatMap_cons, List.length_append, List.length_cons]
   have : (rcOf l n d x).length ≤ 2 := by
    unfold rcOf
    split <;> simp
   omega
 have := h (l.take i)
 have h2 : (l.take i).length ≤ l.length := by rw [List.length_take]; omega
 unfold rR
 omega
theorem maxU {u : Nat} (h : u ≤ 1000000000) : maxI 0 (IntKind.i64.wrap (Int.ofNat u - 1)) = Int.ofNat (u - 1) := by
 rw [wrapI (by show -9223372036854775808 ≤ (u : Int) - 1; omega) (by show (u : Int) - 1 < 9223372036854775808; omega)]
 unfold maxI
 show (if (u : Int) - 1 > 0 then (u : Int) - 1 else 0) = ((u - 1 : Nat) : Int)
 split <;> omega
theorem rNear_pure (l : List Nat) (hl0 : l ≠ []) (hs : Srt l) (hal : ∀ x, x ∈ l → 1 ≤ x ∧ x ≤ 216000) (hll : l.length ≤ 216001) (n d : Nat) (hn : n ≤ 50000) (hd : 1 ≤ d ∧ d ≤ 50000) :
  Pure prog 95 [nl (zl l), fv (Int.ofNat n) (Int.ofNat d)] (pv (zp (rnF l n d))) := by
 have lL := nl_no (zl l)
 have lR := flat_no (zp (rnF l n d))
 have lz := zl_len l
 have hlen : 0 < l.length := List.length_pos_iff.2 hl0
 refine pure_sym hE rfl (by repeat' (first | exact trivial | assumption | exact flat_no _ | exact (fun _ h => nomatch h) | apply And.intro)) (by repeat' (first | exact trivial | assumption | exact flat_no _ | exact (fun _ h => nomatch h) | apply And.intro)) fun S q pc hS hq hC hE => ?_
 conv => whnf
 refine sym_loopR hE hS (A := Nat × Nat × AV × List AObj) [] (fun x hx => nomatch hx) [0, 3] (fun (i, t, v, _) => [(5, v), (6, nv t), (7, nv i)]) (fun _ => []) (fun a => a.2.2.2) (fun (i, t, v, ux) => i ≤ l.length ∧ t < l.length ∧ (∀ j, i ≤ j → j < l.length → t ≤ mnI l n d j) ∧ (i = 0 ∧ v = .nils ∧ ux = [] ∨ 0 < i ∧ v = .lst (flat (zp (rR l n d i))) (zp (rR l n d i)).length (.ch 1) ∧ ux = [.chain (zp (rR l n d i)).length 2 24])) (fun (i, _, _) => l.length - i) (0, 0, .nils, []) (Nat.le_of_ble_eq_true rfl) trivial rfl (by repeat' (first | exact trivial | exact Nat.zero_le _ | exact bz lL | exact Nat.le_of_ble_eq_true rfl | exact bdl_no (by assumption) | exact bdl_no (flat_no _) | exact bdl_no (ivs_no _) | exact bdl_no (svs_no _) | exact Nat.max_le.2 ⟨Nat.le_of_ble_eq_true rfl, bdl_no (ivs_no _)⟩ | exact Nat.max_le.2 ⟨Nat.le_of_ble_eq_true rfl, bdl_no (svs_no _)⟩ | apply And.intro)) (by refine ⟨rfl, rfl, rfl, rfl, rfl, rfl, by decide, ?_, ?_, ?_, by kernel_rfl, ?_, ?_⟩ <;> repeat' (first | exact trivial | exact rfl | exact ⟨_, rfl, RnV.wk (WkV.refl _) (Nat.zero_le _)⟩ | exact ⟨_, rfl, RnV.wk (WkV.refl _) (Nat.le_of_ble_eq_true rfl)⟩ | exact TrIw.refl _ _ _ _ _ | exact OWk.same _ | exact OWk.loop _ _ _ _ _ _ _ (by repeat' (first | exact trivial | exact WkV.refl _ | exact WkV.unk _ | apply And.intro)) | exact Nat.zero_le _ | exact bz lL | exact ⟨_, rfl, RnV.wk (WkV.refl _) (bz lL)⟩ | exact Nat.le_of_ble_eq_true rfl | exact bdl_no (by assumption) | exact bdl_no (flat_no _) | exact bdl_no (ivs_no _) | exact bdl_no (svs_no _) | exact Nat.max_le.2 ⟨Nat.le_of_ble_eq_true rfl, bdl_no (ivs_no _)⟩ | exact Nat.max_le.2 ⟨Nat.le_of_ble_eq_true rfl, bdl_no (svs_no _)⟩ | apply And.intro)) ⟨Nat.zero_le _, hlen, fun _ _ _ => Nat.zero_le _, .inl ⟨rfl, rfl, rfl⟩⟩ ?_
 rintro ⟨i, t, v, ux⟩ ⟨hi, ht, hm, hR⟩ N hN
 have hi1 : i < l.length → IntKind.i64.wrap (Int.ofNat i + 1) = Int.ofNat (i + 1) := fun h => wrapN (m := i + 1) (by omega)
 rcases hR with ⟨e0, rfl, rfl⟩ | ⟨hne, rfl, rfl⟩
 ·obtain rfl : N = 1 := hN
  conv => whnf
  have hi2 : i < l.length := e0 ▸ hlen
  have c1 : decide (Int.ofNat i < ((zl l).length : Int)) = true := decide_eq_true (by rw [lz]; show (i : Int) < _; omega)
  repeat ((first
   |refine ko_rT c1 ?_
   |refine ko_sF c1 ?_
   |refine plan_as (pick_t c1) ?_
   |refine bool_true c1 ?_
   |refine sym_drawn hS (by kernel_rfl) ?_); conv => whnf)
  refine sym_loopG hE hS (A := Nat) [0, 3, 5, 7] (fun t => [(6, nv t)]) (fun _ => []) (fun _ => []) (fun t => t < l.length ∧ ∀ j, i ≤ j → j < l.length → t ≤ mnI l n d j) (fun t => l.length - t) t (Nat.le_of_ble_eq_true rfl) rfl (by refine ⟨rfl, rfl, rfl, rfl, rfl, rfl, 1, rfl, ?_, ?_⟩ <;> repeat' (first | exact trivial | exact rfl | exact ⟨_, rfl, WkV.refl _⟩ | exact ⟨_, rfl, WkV.own _ _ _⟩ | exact Nat.zero_le _ | exact Nat.le_of_ble_eq_true rfl | exact bdl_no (by assumption) | exact bdl_no (flat_no _) | exact bdl_no (ivs_no _) | exact bdl_no (svs_no _) | exact Nat.max_le.2 ⟨Nat.le_of_ble_eq_true rfl, bdl_no (ivs_no _)⟩ | exact Nat.max_le.2 ⟨Nat.le_of_ble_eq_true rfl, bdl_no (svs_no _)⟩ | apply And.intro)) ⟨ht, hm⟩ ?_
  clear hm
  intro u ⟨hu, hm⟩ M hM
  obtain rfl : M = 1 := hM
  conv => whnf
  have e1 : IntKind.i64.wrap (Int.ofNat u + 1) = Int.ofNat (u + 1) := wrapN (m := u + 1) (by omega)
  have ht0 := hal _ (gn_mem l hu)
  have hg0 := hal _ (gn_mem l hi2)
  have m1 : gn l u * d ≤ 216000 * 50000 := Nat.mul_le_mul ht0.2 hd.2
  have m2 : gn l i * n ≤ 216000 * 50000 := Nat.mul_le_mul hg0.2 hn
  have e2 : IntKind.i64.wrap (Int.ofNat (gn l u) * Int.ofNat d) = Int.ofNat (gn l u * d) := mulN (by omega)
  have e3 : IntKind.i64.wrap (Int.ofNat (gn l i) * Int.ofNat n) = Int.ofNat (gn l i * n) := mulN (by omega)
  have ul : u < (zl l).length := by rw [lz]; exact hu
  have il : i < (zl l).length := by rw [lz]; exact hi2
  have n1 : nth (ivs (zl l)) (u * 1) = some (nv (gn l u)) := by rw [nth_ivs1 ul, gi_zl l hu]
  have n2 : nth (ivs (zl l)) (i * 1) = some (nv (gn l i)) := by rw [nth_ivs1 il, gi_zl l hi2]
  by_cases h1 : u + 1 < l.length
  ·have c2 : decide (IntKind.i64.wrap (Int.ofNat u + 1) < ((zl l).length : Int)) = true := decide_eq_true (by rw [e1, lz]; show ((u + 1 : Nat) : Int) < _; omega)
   repeat ((first
    |refine ko_rT c2 ?_
    |refine ko_sF c2 ?_
    |refine plan_as (pick_t c2) ?_
    |refine bool_true c2 ?_
    |refine ko_rT (gd_tt c2) ?_
    |refine ko_sF (gd_tt c2) ?_
    |refine plan_as (pick_t (gd_tt c2)) ?_
    |refine bool_true (gd_tt c2) ?_
    |refine ko_rT (inR_t ul) ?_
    |refine ko_sF (inR_t ul) ?_
    |refine plan_as (pick_t (inR_t ul)) ?_
    |refine bool_true (inR_t ul) ?_
    |refine ko_rT (inR_t il) ?_
    |refine ko_sF (inR_t il) ?_
    |refine plan_as (pick_t (inR_t il)) ?_
    |refine bool_true (inR_t il) ?_
    |refine sym_drawn hS (by kernel_rfl) ?_); conv => whnf)
   refine plan_as (nthP (n1)) ?_
   conv => whnf
   repeat ((first
    |refine ko_rT c2 ?_
    |refine ko_sF c2 ?_
    |refine plan_as (pick_t c2) ?_
    |refine bool_true c2 ?_
    |refine ko_rT (gd_tt c2) ?_
    |refine ko_sF (gd_tt c2) ?_
    |refine plan_as (pick_t (gd_tt c2)) ?_
    |refine bool_true (gd_tt c2) ?_
    |refine ko_rT (inR_t ul) ?_
    |refine ko_sF (inR_t ul) ?_
    |refine plan_as (pick_t (inR_t ul)) ?_
    |refine bool_true (inR_t ul) ?_
    |refine ko_rT (inR_t il) ?_
    |refine ko_sF (inR_t il) ?_
    |refine plan_as (pick_t (inR_t il)) ?_
    |refine bool_true (inR_t il) ?_
    |refine sym_drawn hS (by kernel_rfl) ?_); conv => whnf)
   refine plan_as (nthP (n2)) ?_
   conv => whnf
   repeat ((first
    |refine ko_rT c2 ?_
    |refine ko_sF c2 ?_
    |refine plan_as (pick_t c2) ?_
    |refine bool_true c2 ?_
    |refine ko_rT (gd_tt c2) ?_
    |refine ko_sF (gd_tt c2) ?_
    |refine plan_as (pick_t (gd_tt c2)) ?_
    |refine bool_true (gd_tt c2) ?_
    |refine ko_rT (inR_t ul) ?_
    |refine ko_sF (inR_t ul) ?_
    |refine plan_as (pick_t (inR_t ul)) ?_
    |refine bool_true (inR_t ul) ?_
    |refine ko_rT (inR_t il) ?_
    |refine ko_sF (inR_t il) ?_
    |refine plan_as (pick_t (inR_t il)) ?_
    |refine bool_true (inR_t il) ?_
    |refine sym_drawn hS (by kernel_rfl) ?_); conv => whnf)
   by_cases h2 : gn l u * d < gn l i * n
   ·have c3 : decide (IntKind.i64.wrap (Int.ofNat (gn l u) * Int.ofNat d) < IntKind.i64.wrap (Int.ofNat (gn l i) * Int.ofNat n)) = true := decide_eq_true (by rw [e2, e3]; show ((gn l u * d : Nat) : Int) < ((gn l i * n : Nat) : Int); omega)
    repeat ((first
     |refine ko_rT c2 ?_
     |refine ko_sF c2 ?_
     |refine plan_as (pick_t c2) ?_
     |refine bool_true c2 ?_
     |refine ko_rT c3 ?_
     |refine ko_sF c3 ?_
     |refine plan_as (pick_t c3) ?_
     |refine bool_true c3 ?_
     |refine sym_drawn hS (by kernel_rfl) ?_); conv => whnf)
    have hu2 : ∀ j, i ≤ j → j < l.length → u + 1 ≤ mnI l n d j := fun j h3 h4 => Nat.le_trans (by
     have h5 : u < cntB d (gn l i * n) l := by
      apply Classical.byContradiction
      intro h6
      exact cnt_ge hs (by omega) hu h2
     show u + 1 ≤ min _ _
     omega) (mnI_mono hs n d h3 h4)
    exact ⟨u + 1, ⟨h1, hu2⟩, by omega, Nat.le_refl _, (by refine ⟨rfl, rfl, rfl, rfl, rfl, rfl, 1, rfl, ?_, ?_⟩ <;> repeat' (first | exact trivial | exact rfl | exact ⟨_, rfl, WkV.refl _⟩ | exact ⟨_, rfl, WkV.own _ _ _⟩ | exact Nat.zero_le _ | exact ⟨_, rfl, WkV.int e1⟩ | exact Nat.le_of_ble_eq_true rfl | exact bdl_no (by assumption) | exact bdl_no (flat_no _) | exact bdl_no (ivs_no _) | exact bdl_no (svs_no _) | exact Nat.max_le.2 ⟨Nat.le_of_ble_eq_true rfl, bdl_no (ivs_no _)⟩ | exact Nat.max_le.2 ⟨Nat.le_of_ble_eq_true rfl, bdl_no (svs_no _)⟩ | apply And.intro))⟩
   ·have c3 : decide (IntKind.i64.wrap (Int.ofNat (gn l u) * Int.ofNat d) < IntKind.i64.wrap (Int.ofNat (gn l i) * Int.ofNat n)) = false := decide_eq_false (by rw [e2, e3]; show ¬ ((gn l u * d : Nat) : Int) < ((gn l i * n : Nat) : Int); omega)
    repeat ((first
     |refine ko_rT c2 ?_
     |refine ko_sF c2 ?_
     |refine plan_as (pick_t c2) ?_
     |refine bool_true c2 ?_
     |refine ko_sT c3 ?_
     |refine ko_rF c3 ?_
     |refine plan_as (pick_f c3) ?_
     |refine bool_false c3 ?_
     |refine sym_drawn hS (by kernel_rfl) ?_); conv => whnf)
    have hx : u = mnI l n d i := by
     have h3 := hm i (Nat.le_refl _) hi2
     have h4 : ¬ u < cntB d (gn l i * n) l := fun h5 => h2 (cnt_lt _ _ _ _ h5)
     unfold mnI at h3 ⊢
     omega
    refine .inl ?_
    conv => whnf
    have hnx := rR_next l n d hi2
    rw [← hx] at hnx
    rw [show rR l n d i = [] by rw [e0]; rfl] at hnx
    have eK : maxI 0 (IntKind.i64.wrap (Int.ofNat u - 1)) = Int.ofNat (u - 1) := maxU (by omega)
    have hu1l : u - 1 < l.length := by omega
    have ul1 : u - 1 < (zl l).length := by rw [lz]; exact hu1l
    have n3 : nth (ivs (zl l)) ((u - 1) * 1) = some (nv (gn l (u - 1))) := by rw [nth_ivs1 ul1, gi_zl l hu1l]
    have k1 : IntKind.i64.wrap (Int.ofNat (u - 1) + 1) = Int.ofNat (u - 1 + 1) := wrapN (m := u - 1 + 1) (by omega)
    refine loop_set 8 rfl (congrArg (AV.int .i64) eK) ?_
    refine sym_unroll hE hS ?_
    conv => whnf
    refine bool_true (decide_eq_true (show Int.ofNat (u - 1) ≤ Int.ofNat u by show ((u - 1 : Nat) : Int) ≤ (u : Int); omega)) ?_
    conv => whnf
    repeat ((first
     |refine ko_rT (inR_t ul1) ?_
     |refine ko_sF (inR_t ul1) ?_
     |refine plan_as (pick_t (inR_t ul1)) ?_
     |refine bool_true (inR_t ul1) ?_
     |refine ko_rT (inR_t il) ?_
     |refine ko_sF (inR_t il) ?_
     |refine plan_as (pick_t (inR_t il)) ?_
     |refine bool_true (inR_t il) ?_
     |refine sym_drawn hS (by kernel_rfl) ?_); conv => whnf)
    refine plan_as (nthP (n3)) ?_
    conv => whnf
    repeat ((first
     |refine ko_rT (inR_t ul1) ?_
     |refine ko_sF (inR_t ul1) ?_
     |refine plan_as (pick_t (inR_t ul1)) ?_
     |refine bool_true (inR_t ul1) ?_
     |refine ko_rT (inR_t il) ?_
     |refine ko_sF (inR_t il) ?_
     |refine plan_as (pick_t (inR_t il)) ?_
     |refine bool_true (inR_t il) ?_
     |refine sym_drawn hS (by kernel_rfl) ?_); conv => whnf)
    refine plan_as (nthP (n2)) ?_
    conv => whnf
    repeat ((first
     |refine ko_rT (inR_t ul1) ?_
     |refine ko_sF (inR_t ul1) ?_
     |refine plan_as (pick_t (inR_t ul1)) ?_
     |refine bool_true (inR_t ul1) ?_
     |refine ko_rT (inR_t il) ?_
     |refine ko_sF (inR_t il) ?_
     |refine plan_as (pick_t (inR_t il)) ?_
     |refine bool_true (inR_t il) ?_
     |refine sym_drawn hS (by kernel_rfl) ?_); conv => whnf)
    skip
    by_cases hu0 : u = 0
    ·have hu1 : u - 1 = u := by omega
     rw [if_neg (by omega), List.nil_append] at hnx
     refine loop_set 8 rfl (congrArg (AV.int .i64) (k1.trans (by rw [show u - 1 + 1 = 1 by omega]) : IntKind.i64.wrap (Int.ofNat (u - 1) + 1) = Int.ofNat 1)) ?_
     refine sym_unroll hE hS ?_
     conv => whnf
     refine bool_false (decide_eq_false (show ¬ Int.ofNat 1 ≤ Int.ofNat u by show ¬ ((1 : Nat) : Int) ≤ (u : Int); omega)) ?_
     conv => whnf
     exact ⟨(i + 1, u, .lst [nv (gn l (u - 1)), nv (gn l i)] 1 (.ch 1), [.chain 1 2 24]), [34], ⟨hi2, hu, fun j h3 h4 => hx ▸ mnI_mono hs n d (by omega) h4, .inr ⟨Nat.succ_pos _, by rw [hnx, hu1]; rfl, by rw [hnx]; rfl⟩⟩, by show l.length - (i + 1) < l.length - i; omega, (by refine ⟨rfl, rfl, rfl, rfl, rfl, rfl, by decide, ?_, ?_, ?_, by kernel_rfl, ?_, ?_⟩ <;> repeat' (first | exact trivial | exact rfl | exact ⟨_, rfl, RnV.wk (WkV.refl _) (Nat.zero_le _)⟩ | exact ⟨_, rfl, RnV.wk (WkV.refl _) (Nat.le_of_ble_eq_true rfl)⟩ | exact TrIw.refl _ _ _ _ _ | exact OWk.same _ | exact OWk.loop _ _ _ _ _ _ _ (by repeat' (first | exact trivial | exact WkV.refl _ | exact WkV.unk _ | apply And.intro)) | exact Nat.zero_le _ | exact bz lL | exact ⟨_, rfl, RnV.wk (WkV.refl _) (bz lL)⟩ | exact ⟨_, rfl, RnV.wk (WkV.int (hi1 hi2)) (Nat.zero_le _)⟩ | exact ⟨_, rfl, rnC (j := 0) (by decide) rfl rfl ⟨trivial, trivial, trivial⟩⟩ | exact Nat.le_of_ble_eq_true rfl | exact bdl_no (by assumption) | exact bdl_no (flat_no _) | exact bdl_no (ivs_no _) | exact bdl_no (svs_no _) | exact Nat.max_le.2 ⟨Nat.le_of_ble_eq_true rfl, bdl_no (ivs_no _)⟩ | exact Nat.max_le.2 ⟨Nat.le_of_ble_eq_true rfl, bdl_no (svs_no _)⟩ | apply And.intro))⟩
    ·rw [if_pos (by omega)] at hnx
     refine loop_set 8 rfl (congrArg (AV.int .i64) (k1.trans (by rw [show u - 1 + 1 = u by omega]) : IntKind.i64.wrap (Int.ofNat (u - 1) + 1) = Int.ofNat u)) ?_
     skip
     refine sym_unroll hE hS ?_
     conv => whnf
     refine bool_true (decide_eq_true (show Int.ofNat u ≤ Int.ofNat u from Int.le_refl _)) ?_
     conv => whnf
     repeat ((first
      |refine ko_rT (inR_t ul) ?_
      |refine ko_sF (inR_t ul) ?_
      |refine plan_as (pick_t (inR_t ul)) ?_
      |refine bool_true (inR_t ul) ?_
      |refine ko_rT (inR_t il) ?_
      |refine ko_sF (inR_t il) ?_
      |refine plan_as (pick_t (inR_t il)) ?_
      |refine bool_true (inR_t il) ?_
      |refine sym_drawn hS (by kernel_rfl) ?_); conv => whnf)
     refine plan_as (nthP (n1)) ?_
     conv => whnf
     repeat ((first
      |refine ko_rT (inR_t ul) ?_
      |refine ko_sF (inR_t ul) ?_
      |refine plan_as (pick_t (inR_t ul)) ?_
      |refine bool_true (inR_t ul) ?_
      |refine ko_rT (inR_t il) ?_
      |refine ko_sF (inR_t il) ?_
      |refine plan_as (pick_t (inR_t il)) ?_
      |refine bool_true (inR_t il) ?_
      |refine sym_drawn hS (by kernel_rfl) ?_); conv => whnf)
     refine plan_as (nthP (n2)) ?_
     conv => whnf
     repeat ((first
      |refine ko_rT (inR_t ul) ?_
      |refine ko_sF (inR_t ul) ?_
      |refine plan_as (pick_t (inR_t ul)) ?_
      |refine bool_true (inR_t ul) ?_
      |refine ko_rT (inR_t il) ?_
      |refine ko_sF (inR_t il) ?_
      |refine plan_as (pick_t (inR_t il)) ?_
      |refine bool_true (inR_t il) ?_
      |refine sym_drawn hS (by kernel_rfl) ?_); conv => whnf)
     skip
     have k2 : IntKind.i64.wrap (Int.ofNat u + 1) = Int.ofNat (u + 1) := wrapN (m := u + 1) (by omega)
     refine loop_set 8 rfl (congrArg (AV.int .i64) k2) ?_
     refine sym_unroll hE hS ?_
     conv => whnf
     refine bool_false (decide_eq_false (show ¬ Int.ofNat (u + 1) ≤ Int.ofNat u by show ¬ ((u + 1 : Nat) : Int) ≤ (u : Int); omega)) ?_
     conv => whnf
     exact ⟨(i + 1, u, .lst [nv (gn l (u - 1)), nv (gn l i), nv (gn l u), nv (gn l i)] 2 (.ch 1), [.chain 2 2 24]), [34], ⟨hi2, hu, fun j h3 h4 => hx ▸ mnI_mono hs n d (by omega) h4, .inr ⟨Nat.succ_pos _, by rw [hnx]; rfl, by rw [hnx]; rfl⟩⟩, by show l.length - (i + 1) < l.length - i; omega, (by refine ⟨rfl, rfl, rfl, rfl, rfl, rfl, by decide, ?_, ?_, ?_, by kernel_rfl, ?_, ?_⟩ <;> repeat' (first | exact trivial | exact rfl | exact ⟨_, rfl, RnV.wk (WkV.refl _) (Nat.zero_le _)⟩ | exact ⟨_, rfl, RnV.wk (WkV.refl _) (Nat.le_of_ble_eq_true rfl)⟩ | exact TrIw.refl _ _ _ _ _ | exact OWk.same _ | exact OWk.loop _ _ _ _ _ _ _ (by repeat' (first | exact trivial | exact WkV.refl _ | exact WkV.unk _ | apply And.intro)) | exact Nat.zero_le _ | exact bz lL | exact ⟨_, rfl, RnV.wk (WkV.refl _) (bz lL)⟩ | exact ⟨_, rfl, RnV.wk (WkV.int (hi1 hi2)) (Nat.zero_le _)⟩ | exact ⟨_, rfl, rnC (j := 0) (by decide) rfl rfl ⟨trivial, trivial, trivial, trivial, trivial⟩⟩ | exact Nat.le_of_ble_eq_true rfl | exact bdl_no (by assumption) | exact bdl_no (flat_no _) | exact bdl_no (ivs_no _) | exact bdl_no (svs_no _) | exact Nat.max_le.2 ⟨Nat.le_of_ble_eq_true rfl, bdl_no (ivs_no _)⟩ | exact Nat.max_le.2 ⟨Nat.le_of_ble_eq_true rfl, bdl_no (svs_no _)⟩ | apply And.intro))⟩
  ·have c2 : decide (IntKind.i64.wrap (Int.ofNat u + 1) < ((zl l).length : Int)) = false := decide_eq_false (by rw [e1, lz]; show ¬ ((u + 1 : Nat) : Int) < _; omega)
   repeat ((first
    |refine ko_sT c2 ?_
    |refine ko_rF c2 ?_
    |refine plan_as (pick_f c2) ?_
    |refine bool_false c2 ?_
    |refine ko_sT (gd_tf c2) ?_
    |refine ko_rF (gd_tf c2) ?_
    |refine plan_as (pick_f (gd_tf c2)) ?_
    |refine bool_false (gd_tf c2) ?_
    |refine sym_drawn hS (by kernel_rfl) ?_); conv => whnf)
   have hx : u = mnI l n d i := by
    have h3 := hm i (Nat.le_refl _) hi2
    unfold mnI at h3 ⊢
    omega
   refine .inl ?_
   conv => whnf
   have hnx := rR_next l n d hi2
   rw [← hx] at hnx
   rw [show rR l n d i = [] by rw [e0]; rfl] at hnx
   have eK : maxI 0 (IntKind.i64.wrap (Int.ofNat u - 1)) = Int.ofNat (u - 1) := maxU (by omega)
   have hu1l : u - 1 < l.length := by omega
   have ul1 : u - 1 < (zl l).length := by rw [lz]; exact hu1l
   have n3 : nth (ivs (zl l)) ((u - 1) * 1) = some (nv (gn l (u - 1))) := by rw [nth_ivs1 ul1, gi_zl l hu1l]
   have k1 : IntKind.i64.wrap (Int.ofNat (u - 1) + 1) = Int.ofNat (u - 1 + 1) := wrapN (m := u - 1 + 1) (by omega)
   refine loop_set 8 rfl (congrArg (AV.int .i64) eK) ?_
   refine sym_unroll hE hS ?_
   conv => whnf
   refine bool_true (decide_eq_true (show Int.ofNat (u - 1) ≤ Int.ofNat u by show ((u - 1 : Nat) : Int) ≤ (u : Int); omega)) ?_
   conv => whnf
   repeat ((first
    |refine ko_rT (inR_t ul1) ?_
    |refine ko_sF (inR_t ul1) ?_
    |refine plan_as (pick_t (inR_t ul1)) ?_
    |refine bool_true (inR_t ul1) ?_
    |refine ko_rT (inR_t il) ?_
    |refine ko_sF (inR_t il) ?_
    |refine plan_as (pick_t (inR_t il)) ?_
    |refine bool_true (inR_t il) ?_
    |refine sym_drawn hS (by kernel_rfl) ?_); conv => whnf)
   refine plan_as (nthP (n3)) ?_
   conv => whnf
   repeat ((first
    |refine ko_rT (inR_t ul1) ?_
    |refine ko_sF (inR_t ul1) ?_
    |refine plan_as (pick_t (inR_t ul1)) ?_
    |refine bool_true (inR_t ul1) ?_
    |refine ko_rT (inR_t il) ?_
    |refine ko_sF (inR_t il) ?_
    |refine plan_as (pick_t (inR_t il)) ?_
    |refine bool_true (inR_t il) ?_
    |refine sym_drawn hS (by kernel_rfl) ?_); conv => whnf)
   refine plan_as (nthP (n2)) ?_
   conv => whnf
   repeat ((first
    |refine ko_rT (inR_t ul1) ?_
    |refine ko_sF (inR_t ul1) ?_
    |refine plan_as (pick_t (inR_t ul1)) ?_
    |refine bool_true (inR_t ul1) ?_
    |refine ko_rT (inR_t il) ?_
    |refine ko_sF (inR_t il) ?_
    |refine plan_as (pick_t (inR_t il)) ?_
    |refine bool_true (inR_t il) ?_
    |refine sym_drawn hS (by kernel_rfl) ?_); conv => whnf)
   skip
   by_cases hu0 : u = 0
   ·have hu1 : u - 1 = u := by omega
    rw [if_neg (by omega), List.nil_append] at hnx
    refine loop_set 8 rfl (congrArg (AV.int .i64) (k1.trans (by rw [show u - 1 + 1 = 1 by omega]) : IntKind.i64.wrap (Int.ofNat (u - 1) + 1) = Int.ofNat 1)) ?_
    refine sym_unroll hE hS ?_
    conv => whnf
    refine bool_false (decide_eq_false (show ¬ Int.ofNat 1 ≤ Int.ofNat u by show ¬ ((1 : Nat) : Int) ≤ (u : Int); omega)) ?_
    conv => whnf
    exact ⟨(i + 1, u, .lst [nv (gn l (u - 1)), nv (gn l i)] 1 (.ch 1), [.chain 1 2 24]), [34], ⟨hi2, hu, fun j h3 h4 => hx ▸ mnI_mono hs n d (by omega) h4, .inr ⟨Nat.succ_pos _, by rw [hnx, hu1]; rfl, by rw [hnx]; rfl⟩⟩, by show l.length - (i + 1) < l.length - i; omega, (by refine ⟨rfl, rfl, rfl, rfl, rfl, rfl, by decide, ?_, ?_, ?_, by kernel_rfl, ?_, ?_⟩ <;> repeat' (first | exact trivial | exact rfl | exact ⟨_, rfl, RnV.wk (WkV.refl _) (Nat.zero_le _)⟩ | exact ⟨_, rfl, RnV.wk (WkV.refl _) (Nat.le_of_ble_eq_true rfl)⟩ | exact TrIw.refl _ _ _ _ _ | exact OWk.same _ | exact OWk.loop _ _ _ _ _ _ _ (by repeat' (first | exact trivial | exact WkV.refl _ | exact WkV.unk _ | apply And.intro)) | exact Nat.zero_le _ | exact bz lL | exact ⟨_, rfl, RnV.wk (WkV.refl _) (bz lL)⟩ | exact ⟨_, rfl, RnV.wk (WkV.int (hi1 hi2)) (Nat.zero_le _)⟩ | exact ⟨_, rfl, rnC (j := 0) (by decide) rfl rfl ⟨trivial, trivial, trivial⟩⟩ | exact Nat.le_of_ble_eq_true rfl | exact bdl_no (by assumption) | exact bdl_no (flat_no _) | exact bdl_no (ivs_no _) | exact bdl_no (svs_no _) | exact Nat.max_le.2 ⟨Nat.le_of_ble_eq_true rfl, bdl_no (ivs_no _)⟩ | exact Nat.max_le.2 ⟨Nat.le_of_ble_eq_true rfl, bdl_no (svs_no _)⟩ | apply And.intro))⟩
   ·rw [if_pos (by omega)] at hnx
    refine loop_set 8 rfl (congrArg (AV.int .i64) (k1.trans (by rw [show u - 1 + 1 = u by omega]) : IntKind.i64.wrap (Int.ofNat (u - 1) + 1) = Int.ofNat u)) ?_
    skip
    refine sym_unroll hE hS ?_
    conv => whnf
    refine bool_true (decide_eq_true (show Int.ofNat u ≤ Int.ofNat u from Int.le_refl _)) ?_
    conv => whnf
    repeat ((first
     |refine ko_rT (inR_t ul) ?_
     |refine ko_sF (inR_t ul) ?_
     |refine plan_as (pick_t (inR_t ul)) ?_
     |refine bool_true (inR_t ul) ?_
     |refine ko_rT (inR_t il) ?_
     |refine ko_sF (inR_t il) ?_
     |refine plan_as (pick_t (inR_t il)) ?_
     |refine bool_true (inR_t il) ?_
     |refine sym_drawn hS (by kernel_rfl) ?_); conv => whnf)
    refine plan_as (nthP (n1)) ?_
    conv => whnf
    repeat ((first
     |refine ko_rT (inR_t ul) ?_
     |refine ko_sF (inR_t ul) ?_
     |refine plan_as (pick_t (inR_t ul)) ?_
     |refine bool_true (inR_t ul) ?_
     |refine ko_rT (inR_t il) ?_
     |refine ko_sF (inR_t il) ?_
     |refine plan_as (pick_t (inR_t il)) ?_
     |refine bool_true (inR_t il) ?_
     |refine sym_drawn hS (by kernel_rfl) ?_); conv => whnf)
    refine plan_as (nthP (n2)) ?_
    conv => whnf
    repeat ((first
     |refine ko_rT (inR_t ul) ?_
     |refine ko_sF (inR_t ul) ?_
     |refine plan_as (pick_t (inR_t ul)) ?_
     |refine bool_true (inR_t ul) ?_
     |refine ko_rT (inR_t il) ?_
     |refine ko_sF (inR_t il) ?_
     |refine plan_as (pick_t (inR_t il)) ?_
     |refine bool_true (inR_t il) ?_
     |refine sym_drawn hS (by kernel_rfl) ?_); conv => whnf)
    skip
    have k2 : IntKind.i64.wrap (Int.ofNat u + 1) = Int.ofNat (u + 1) := wrapN (m := u + 1) (by omega)
    refine loop_set 8 rfl (congrArg (AV.int .i64) k2) ?_
    refine sym_unroll hE hS ?_
    conv => whnf
    refine bool_false (decide_eq_false (show ¬ Int.ofNat (u + 1) ≤ Int.ofNat u by show ¬ ((u + 1 : Nat) : Int) ≤ (u : Int); omega)) ?_
    conv => whnf
    exact ⟨(i + 1, u, .lst [nv (gn l (u - 1)), nv (gn l i), nv (gn l u), nv (gn l i)] 2 (.ch 1), [.chain 2 2 24]), [34], ⟨hi2, hu, fun j h3 h4 => hx ▸ mnI_mono hs n d (by omega) h4, .inr ⟨Nat.succ_pos _, by rw [hnx]; rfl, by rw [hnx]; rfl⟩⟩, by show l.length - (i + 1) < l.length - i; omega, (by refine ⟨rfl, rfl, rfl, rfl, rfl, rfl, by decide, ?_, ?_, ?_, by kernel_rfl, ?_, ?_⟩ <;> repeat' (first | exact trivial | exact rfl | exact ⟨_, rfl, RnV.wk (WkV.refl _) (Nat.zero_le _)⟩ | exact ⟨_, rfl, RnV.wk (WkV.refl _) (Nat.le_of_ble_eq_true rfl)⟩ | exact TrIw.refl _ _ _ _ _ | exact OWk.same _ | exact OWk.loop _ _ _ _ _ _ _ (by repeat' (first | exact trivial | exact WkV.refl _ | exact WkV.unk _ | apply And.intro)) | exact Nat.zero_le _ | exact bz lL | exact ⟨_, rfl, RnV.wk (WkV.refl _) (bz lL)⟩ | exact ⟨_, rfl, RnV.wk (WkV.int (hi1 hi2)) (Nat.zero_le _)⟩ | exact ⟨_, rfl, rnC (j := 0) (by decide) rfl rfl ⟨trivial, trivial, trivial, trivial, trivial⟩⟩ | exact Nat.le_of_ble_eq_true rfl | exact bdl_no (by assumption) | exact bdl_no (flat_no _) | exact bdl_no (ivs_no _) | exact bdl_no (svs_no _) | exact Nat.max_le.2 ⟨Nat.le_of_ble_eq_true rfl, bdl_no (ivs_no _)⟩ | exact Nat.max_le.2 ⟨Nat.le_of_ble_eq_true rfl, bdl_no (svs_no _)⟩ | apply And.intro))⟩
 ·obtain rfl : N = 2 := hN
  have hRl := rR_len l n d i
  conv => whnf
  by_cases hi2 : i < l.length
  ·have c1 : decide (Int.ofNat i < ((zl l).length : Int)) = true := decide_eq_true (by rw [lz]; show (i : Int) < _; omega)
   repeat ((first
    |refine ko_rT c1 ?_
    |refine ko_sF c1 ?_
    |refine plan_as (pick_t c1) ?_
    |refine bool_true c1 ?_
    |refine sym_drawn hS (by kernel_rfl) ?_); conv => whnf)
   refine sym_loopG hE hS (A := Nat) [0, 3, 5, 7] (fun t => [(6, nv t)]) (fun _ => []) (fun _ => []) (fun t => t < l.length ∧ ∀ j, i ≤ j → j < l.length → t ≤ mnI l n d j) (fun t => l.length - t) t (Nat.le_of_ble_eq_true rfl) rfl (by refine ⟨rfl, rfl, rfl, rfl, rfl, rfl, 2, rfl, ?_, ?_⟩ <;> repeat' (first | exact trivial | exact rfl | exact ⟨_, rfl, WkV.refl _⟩ | exact ⟨_, rfl, WkV.own _ _ _⟩ | exact Nat.zero_le _ | exact Nat.max_le.2 ⟨Nat.le_of_ble_eq_true rfl, bdl_no (flat_no _)⟩ | exact Nat.le_of_ble_eq_true rfl | exact bdl_no (by assumption) | exact bdl_no (flat_no _) | exact bdl_no (ivs_no _) | exact bdl_no (svs_no _) | exact Nat.max_le.2 ⟨Nat.le_of_ble_eq_true rfl, bdl_no (ivs_no _)⟩ | exact Nat.max_le.2 ⟨Nat.le_of_ble_eq_true rfl, bdl_no (svs_no _)⟩ | apply And.intro)) ⟨ht, hm⟩ ?_
   clear hm
   intro u ⟨hu, hm⟩ M hM
   obtain rfl : M = 2 := hM
   conv => whnf
   have e1 : IntKind.i64.wrap (Int.ofNat u + 1) = Int.ofNat (u + 1) := wrapN (m := u + 1) (by omega)
   have ht0 := hal _ (gn_mem l hu)
   have hg0 := hal _ (gn_mem l hi2)
   have m1 : gn l u * d ≤ 216000 * 50000 := Nat.mul_le_mul ht0.2 hd.2
   have m2 : gn l i * n ≤ 216000 * 50000 := Nat.mul_le_mul hg0.2 hn
   have e2 : IntKind.i64.wrap (Int.ofNat (gn l u) * Int.ofNat d) = Int.ofNat (gn l u * d) := mulN (by omega)
   have e3 : IntKind.i64.wrap (Int.ofNat (gn l i) * Int.ofNat n) = Int.ofNat (gn l i * n) := mulN (by omega)
   have ul : u < (zl l).length := by rw [lz]; exact hu
   have il : i < (zl l).length := by rw [lz]; exact hi2
   have n1 : nth (ivs (zl l)) (u * 1) = some (nv (gn l u)) := by rw [nth_ivs1 ul, gi_zl l hu]
   have n2 : nth (ivs (zl l)) (i * 1) = some (nv (gn l i)) := by rw [nth_ivs1 il, gi_zl l hi2]
   by_cases h1 : u + 1 < l.length
   ·have c2 : decide (IntKind.i64.wrap (Int.ofNat u + 1) < ((zl l).length : Int)) = true := decide_eq_true (by rw [e1, lz]; show ((u + 1 : Nat) : Int) < _; omega)
    repeat ((first
     |refine ko_rT c2 ?_
     |refine ko_sF c2 ?_
     |refine plan_as (pick_t c2) ?_
     |refine bool_true c2 ?_
     |refine ko_rT (gd_tt c2) ?_
     |refine ko_sF (gd_tt c2) ?_
     |refine plan_as (pick_t (gd_tt c2)) ?_
     |refine bool_true (gd_tt c2) ?_
     |refine ko_rT (inR_t ul) ?_
     |refine ko_sF (inR_t ul) ?_
     |refine plan_as (pick_t (inR_t ul)) ?_
     |refine bool_true (inR_t ul) ?_
     |refine ko_rT (inR_t il) ?_
     |refine ko_sF (inR_t il) ?_
     |refine plan_as (pick_t (inR_t il)) ?_
     |refine bool_true (inR_t il) ?_
     |refine sym_drawn hS (by kernel_rfl) ?_); conv => whnf)
    refine plan_as (nthP (n1)) ?_
    conv => whnf
    repeat ((first
     |refine ko_rT c2 ?_
     |refine ko_sF c2 ?_
     |refine plan_as (pick_t c2) ?_
     |refine bool_true c2 ?_
     |refine ko_rT (gd_tt c2) ?_
     |refine ko_sF (gd_tt c2) ?_
     |refine plan_as (pick_t (gd_tt c2)) ?_
     |refine bool_true (gd_tt c2) ?_
     |refine ko_rT (inR_t ul) ?_
     |refine ko_sF (inR_t ul) ?_
     |refine plan_as (pick_t (inR_t ul)) ?_
     |refine bool_true (inR_t ul) ?_
     |refine ko_rT (inR_t il) ?_
     |refine ko_sF (inR_t il) ?_
     |refine plan_as (pick_t (inR_t il)) ?_
     |refine bool_true (inR_t il) ?_
     |refine sym_drawn hS (by kernel_rfl) ?_); conv => whnf)
    refine plan_as (nthP (n2)) ?_
    conv => whnf
    repeat ((first
     |refine ko_rT c2 ?_
     |refine ko_sF c2 ?_
     |refine plan_as (pick_t c2) ?_
     |refine bool_true c2 ?_
     |refine ko_rT (gd_tt c2) ?_
     |refine ko_sF (gd_tt c2) ?_
     |refine plan_as (pick_t (gd_tt c2)) ?_
     |refine bool_true (gd_tt c2) ?_
     |refine ko_rT (inR_t ul) ?_
     |refine ko_sF (inR_t ul) ?_
     |refine plan_as (pick_t (inR_t ul)) ?_
     |refine bool_true (inR_t ul) ?_
     |refine ko_rT (inR_t il) ?_
     |refine ko_sF (inR_t il) ?_
     |refine plan_as (pick_t (inR_t il)) ?_
     |refine bool_true (inR_t il) ?_
     |refine sym_drawn hS (by kernel_rfl) ?_); conv => whnf)
    by_cases h2 : gn l u * d < gn l i * n
    ·have c3 : decide (IntKind.i64.wrap (Int.ofNat (gn l u) * Int.ofNat d) < IntKind.i64.wrap (Int.ofNat (gn l i) * Int.ofNat n)) = true := decide_eq_true (by rw [e2, e3]; show ((gn l u * d : Nat) : Int) < ((gn l i * n : Nat) : Int); omega)
     repeat ((first
      |refine ko_rT c2 ?_
      |refine ko_sF c2 ?_
      |refine plan_as (pick_t c2) ?_
      |refine bool_true c2 ?_
      |refine ko_rT c3 ?_
      |refine ko_sF c3 ?_
      |refine plan_as (pick_t c3) ?_
      |refine bool_true c3 ?_
      |refine sym_drawn hS (by kernel_rfl) ?_); conv => whnf)
     have hu2 : ∀ j, i ≤ j → j < l.length → u + 1 ≤ mnI l n d j := fun j h3 h4 => Nat.le_trans (by
      have h5 : u < cntB d (gn l i * n) l := by
       apply Classical.byContradiction
       intro h6
       exact cnt_ge hs (by omega) hu h2
      show u + 1 ≤ min _ _
      omega) (mnI_mono hs n d h3 h4)
     exact ⟨u + 1, ⟨h1, hu2⟩, by omega, Nat.le_refl _, (by refine ⟨rfl, rfl, rfl, rfl, rfl, rfl, 2, rfl, ?_, ?_⟩ <;> repeat' (first | exact trivial | exact rfl | exact ⟨_, rfl, WkV.refl _⟩ | exact ⟨_, rfl, WkV.own _ _ _⟩ | exact Nat.zero_le _ | exact ⟨_, rfl, WkV.int e1⟩ | exact Nat.max_le.2 ⟨Nat.le_of_ble_eq_true rfl, bdl_no (flat_no _)⟩ | exact Nat.le_of_ble_eq_true rfl | exact bdl_no (by assumption) | exact bdl_no (flat_no _) | exact bdl_no (ivs_no _) | exact bdl_no (svs_no _) | exact Nat.max_le.2 ⟨Nat.le_of_ble_eq_true rfl, bdl_no (ivs_no _)⟩ | exact Nat.max_le.2 ⟨Nat.le_of_ble_eq_true rfl, bdl_no (svs_no _)⟩ | apply And.intro))⟩
    ·have c3 : decide (IntKind.i64.wrap (Int.ofNat (gn l u) * Int.ofNat d) < IntKind.i64.wrap (Int.ofNat (gn l i) * Int.ofNat n)) = false := decide_eq_false (by rw [e2, e3]; show ¬ ((gn l u * d : Nat) : Int) < ((gn l i * n : Nat) : Int); omega)
     repeat ((first
      |refine ko_rT c2 ?_
      |refine ko_sF c2 ?_
      |refine plan_as (pick_t c2) ?_
      |refine bool_true c2 ?_
      |refine ko_sT c3 ?_
      |refine ko_rF c3 ?_
      |refine plan_as (pick_f c3) ?_
      |refine bool_false c3 ?_
      |refine sym_drawn hS (by kernel_rfl) ?_); conv => whnf)
     have hx : u = mnI l n d i := by
      have h3 := hm i (Nat.le_refl _) hi2
      have h4 : ¬ u < cntB d (gn l i * n) l := fun h5 => h2 (cnt_lt _ _ _ _ h5)
      unfold mnI at h3 ⊢
      omega
     refine .inl ?_
     conv => whnf
     have hnx := rR_next l n d hi2
     rw [← hx] at hnx
     have eK : maxI 0 (IntKind.i64.wrap (Int.ofNat u - 1)) = Int.ofNat (u - 1) := maxU (by omega)
     have hu1l : u - 1 < l.length := by omega
     have ul1 : u - 1 < (zl l).length := by rw [lz]; exact hu1l
     have n3 : nth (ivs (zl l)) ((u - 1) * 1) = some (nv (gn l (u - 1))) := by rw [nth_ivs1 ul1, gi_zl l hu1l]
     have k1 : IntKind.i64.wrap (Int.ofNat (u - 1) + 1) = Int.ofNat (u - 1 + 1) := wrapN (m := u - 1 + 1) (by omega)
     refine loop_set 8 rfl (congrArg (AV.int .i64) eK) ?_
     refine sym_unroll hE hS ?_
     conv => whnf
     refine bool_true (decide_eq_true (show Int.ofNat (u - 1) ≤ Int.ofNat u by show ((u - 1 : Nat) : Int) ≤ (u : Int); omega)) ?_
     conv => whnf
     repeat ((first
      |refine ko_rT (inR_t ul1) ?_
      |refine ko_sF (inR_t ul1) ?_
      |refine plan_as (pick_t (inR_t ul1)) ?_
      |refine bool_true (inR_t ul1) ?_
      |refine ko_rT (inR_t il) ?_
      |refine ko_sF (inR_t il) ?_
      |refine plan_as (pick_t (inR_t il)) ?_
      |refine bool_true (inR_t il) ?_
      |refine sym_drawn hS (by kernel_rfl) ?_); conv => whnf)
     refine plan_as (nthP (n3)) ?_
     conv => whnf
     repeat ((first
      |refine ko_rT (inR_t ul1) ?_
      |refine ko_sF (inR_t ul1) ?_
      |refine plan_as (pick_t (inR_t ul1)) ?_
      |refine bool_true (inR_t ul1) ?_
      |refine ko_rT (inR_t il) ?_
      |refine ko_sF (inR_t il) ?_
      |refine plan_as (pick_t (inR_t il)) ?_
      |refine bool_true (inR_t il) ?_
      |refine sym_drawn hS (by kernel_rfl) ?_); conv => whnf)
     refine plan_as (nthP (n2)) ?_
     conv => whnf
     repeat ((first
      |refine ko_rT (inR_t ul1) ?_
      |refine ko_sF (inR_t ul1) ?_
      |refine plan_as (pick_t (inR_t ul1)) ?_
      |refine bool_true (inR_t ul1) ?_
      |refine ko_rT (inR_t il) ?_
      |refine ko_sF (inR_t il) ?_
      |refine plan_as (pick_t (inR_t il)) ?_
      |refine bool_true (inR_t il) ?_
      |refine sym_drawn hS (by kernel_rfl) ?_); conv => whnf)
     refine bool_true (decide_eq_true (show ((zp (rR l n d i)).length + (0 + 1)) * 16 ≤ 140737488355328 by rw [zp_len]; omega)) ?_
     conv => whnf
     refine bool_true (decide_eq_true (show (zp (rR l n d i)).length + (0 + 1) ≤ 9223372036854775807 by rw [zp_len]; omega)) ?_
     conv => whnf
     refine bool_true (flat_lenIs (rR l n d i)) ?_
     conv => whnf
     refine bool_true (decide_eq_true (rfl)) ?_
     conv => whnf
     refine sym_drawn hS (by kernel_rfl) ?_
     conv => whnf
     by_cases hu0 : u = 0
     ·have hu1 : u - 1 = u := by omega
      rw [if_neg (by omega), List.nil_append] at hnx
      refine loop_set 8 rfl (congrArg (AV.int .i64) (k1.trans (by rw [show u - 1 + 1 = 1 by omega]) : IntKind.i64.wrap (Int.ofNat (u - 1) + 1) = Int.ofNat 1)) ?_
      refine sym_unroll hE hS ?_
      conv => whnf
      refine bool_false (decide_eq_false (show ¬ Int.ofNat 1 ≤ Int.ofNat u by show ¬ ((1 : Nat) : Int) ≤ (u : Int); omega)) ?_
      conv => whnf
      exact ⟨(i + 1, u, .lst (flat (zp (rR l n d i ++ [(gn l (u - 1), gn l i)]))) (zp (rR l n d i ++ [(gn l (u - 1), gn l i)])).length (.ch 1), [.chain (zp (rR l n d i ++ [(gn l (u - 1), gn l i)])).length 2 24]), [1], ⟨hi2, hu, fun j h3 h4 => hx ▸ mnI_mono hs n d (by omega) h4, .inr ⟨Nat.succ_pos _, by rw [hnx, hu1], by rw [hnx, hu1]⟩⟩, by show l.length - (i + 1) < l.length - i; omega, (by refine ⟨rfl, rfl, rfl, rfl, rfl, rfl, by decide, ?_, ?_, ?_, by kernel_rfl, ?_, ?_⟩ <;> repeat' (first | exact trivial | exact rfl | exact ⟨_, rfl, RnV.wk (WkV.refl _) (Nat.zero_le _)⟩ | exact ⟨_, rfl, RnV.wk (WkV.refl _) (Nat.le_of_ble_eq_true rfl)⟩ | exact TrIw.refl _ _ _ _ _ | exact OWk.same _ | exact OWk.loop _ _ _ _ _ _ _ (by repeat' (first | exact trivial | exact WkV.refl _ | exact WkV.unk _ | apply And.intro)) | exact Nat.zero_le _ | exact bz lL | exact ⟨_, rfl, RnV.wk (WkV.refl _) (bz lL)⟩ | exact ⟨_, rfl, RnV.wk (WkV.int (hi1 hi2)) (Nat.zero_le _)⟩ | exact ⟨_, rfl, rnB (l := rR l n d i) (q := (gn l (u - 1), gn l i)) (j := 0) (by decide) rfl rfl⟩ | exact chB (rR l n d i) (gn l (u - 1), gn l i) | exact OWk.eq (chB (rR l n d i) (gn l (u - 1), gn l i)) | exact Nat.le_of_ble_eq_true rfl | exact bdl_no (by assumption) | exact bdl_no (flat_no _) | exact bdl_no (ivs_no _) | exact bdl_no (svs_no _) | exact Nat.max_le.2 ⟨Nat.le_of_ble_eq_true rfl, bdl_no (ivs_no _)⟩ | exact Nat.max_le.2 ⟨Nat.le_of_ble_eq_true rfl, bdl_no (svs_no _)⟩ | apply And.intro))⟩
     ·rw [if_pos (by omega)] at hnx
      refine loop_set 8 rfl (congrArg (AV.int .i64) (k1.trans (by rw [show u - 1 + 1 = u by omega]) : IntKind.i64.wrap (Int.ofNat (u - 1) + 1) = Int.ofNat u)) ?_
      refine loop_set 5 rfl (pvA _ (gn l (u - 1), gn l i) _) ?_
      refine sym_unroll hE hS ?_
      conv => whnf
      refine bool_true (decide_eq_true (show Int.ofNat u ≤ Int.ofNat u from Int.le_refl _)) ?_
      conv => whnf
      repeat ((first
       |refine ko_rT (inR_t ul) ?_
       |refine ko_sF (inR_t ul) ?_
       |refine plan_as (pick_t (inR_t ul)) ?_
       |refine bool_true (inR_t ul) ?_
       |refine ko_rT (inR_t il) ?_
       |refine ko_sF (inR_t il) ?_
       |refine plan_as (pick_t (inR_t il)) ?_
       |refine bool_true (inR_t il) ?_
       |refine sym_drawn hS (by kernel_rfl) ?_); conv => whnf)
      refine plan_as (nthP (n1)) ?_
      conv => whnf
      repeat ((first
       |refine ko_rT (inR_t ul) ?_
       |refine ko_sF (inR_t ul) ?_
       |refine plan_as (pick_t (inR_t ul)) ?_
       |refine bool_true (inR_t ul) ?_
       |refine ko_rT (inR_t il) ?_
       |refine ko_sF (inR_t il) ?_
       |refine plan_as (pick_t (inR_t il)) ?_
       |refine bool_true (inR_t il) ?_
       |refine sym_drawn hS (by kernel_rfl) ?_); conv => whnf)
      refine plan_as (nthP (n2)) ?_
      conv => whnf
      repeat ((first
       |refine ko_rT (inR_t ul) ?_
       |refine ko_sF (inR_t ul) ?_
       |refine plan_as (pick_t (inR_t ul)) ?_
       |refine bool_true (inR_t ul) ?_
       |refine ko_rT (inR_t il) ?_
       |refine ko_sF (inR_t il) ?_
       |refine plan_as (pick_t (inR_t il)) ?_
       |refine bool_true (inR_t il) ?_
       |refine sym_drawn hS (by kernel_rfl) ?_); conv => whnf)
      refine bool_true (decide_eq_true (show ((zp (rR l n d i ++ [(gn l (u - 1), gn l i)])).length + (0 + 1)) * 16 ≤ 140737488355328 by rw [zp_len, List.length_append, List.length_cons, List.length_nil]; omega)) ?_
      conv => whnf
      refine bool_true (decide_eq_true (show (zp (rR l n d i ++ [(gn l (u - 1), gn l i)])).length + (0 + 1) ≤ 9223372036854775807 by rw [zp_len, List.length_append, List.length_cons, List.length_nil]; omega)) ?_
      conv => whnf
      refine bool_true (flat_lenIs (rR l n d i ++ [(gn l (u - 1), gn l i)])) ?_
      conv => whnf
      refine bool_true (decide_eq_true (by simp only [zp_len, List.length_append, List.length_cons, List.length_nil])) ?_
      conv => whnf
      refine sym_drawn hS (by kernel_rfl) ?_
      conv => whnf
      have k2 : IntKind.i64.wrap (Int.ofNat u + 1) = Int.ofNat (u + 1) := wrapN (m := u + 1) (by omega)
      refine loop_set 8 rfl (congrArg (AV.int .i64) k2) ?_
      refine sym_unroll hE hS ?_
      conv => whnf
      refine bool_false (decide_eq_false (show ¬ Int.ofNat (u + 1) ≤ Int.ofNat u by show ¬ ((u + 1 : Nat) : Int) ≤ (u : Int); omega)) ?_
      conv => whnf
      exact ⟨(i + 1, u, .lst (flat (zp (rR l n d i ++ [(gn l (u - 1), gn l i)] ++ [(gn l u, gn l i)]))) (zp (rR l n d i ++ [(gn l (u - 1), gn l i)] ++ [(gn l u, gn l i)])).length (.ch 1), [.chain (zp (rR l n d i ++ [(gn l (u - 1), gn l i)] ++ [(gn l u, gn l i)])).length 2 24]), [1], ⟨hi2, hu, fun j h3 h4 => hx ▸ mnI_mono hs n d (by omega) h4, .inr ⟨Nat.succ_pos _, by rw [hnx, List.append_assoc], by rw [hnx, List.append_assoc]⟩⟩, by show l.length - (i + 1) < l.length - i; omega, (by refine ⟨rfl, rfl, rfl, rfl, rfl, rfl, by decide, ?_, ?_, ?_, by kernel_rfl, ?_, ?_⟩ <;> repeat' (first | exact trivial | exact rfl | exact ⟨_, rfl, RnV.wk (WkV.refl _) (Nat.zero_le _)⟩ | exact ⟨_, rfl, RnV.wk (WkV.refl _) (Nat.le_of_ble_eq_true rfl)⟩ | exact TrIw.refl _ _ _ _ _ | exact OWk.same _ | exact OWk.loop _ _ _ _ _ _ _ (by repeat' (first | exact trivial | exact WkV.refl _ | exact WkV.unk _ | apply And.intro)) | exact Nat.zero_le _ | exact bz lL | exact ⟨_, rfl, RnV.wk (WkV.refl _) (bz lL)⟩ | exact ⟨_, rfl, RnV.wk (WkV.int (hi1 hi2)) (Nat.zero_le _)⟩ | exact ⟨_, rfl, rnB (l := rR l n d i ++ [(gn l (u - 1), gn l i)]) (q := (gn l u, gn l i)) (j := 0) (by decide) rfl rfl⟩ | exact chB (rR l n d i ++ [(gn l (u - 1), gn l i)]) (gn l u, gn l i) | exact OWk.eq (chB (rR l n d i ++ [(gn l (u - 1), gn l i)]) (gn l u, gn l i)) | exact Nat.le_of_ble_eq_true rfl | exact bdl_no (by assumption) | exact bdl_no (flat_no _) | exact bdl_no (ivs_no _) | exact bdl_no (svs_no _) | exact Nat.max_le.2 ⟨Nat.le_of_ble_eq_true rfl, bdl_no (ivs_no _)⟩ | exact Nat.max_le.2 ⟨Nat.le_of_ble_eq_true rfl, bdl_no (svs_no _)⟩ | apply And.intro))⟩
   ·have c2 : decide (IntKind.i64.wrap (Int.ofNat u + 1) < ((zl l).length : Int)) = false := decide_eq_false (by rw [e1, lz]; show ¬ ((u + 1 : Nat) : Int) < _; omega)
    repeat ((first
     |refine ko_sT c2 ?_
     |refine ko_rF c2 ?_
     |refine plan_as (pick_f c2) ?_
     |refine bool_false c2 ?_
     |refine ko_sT (gd_tf c2) ?_
     |refine ko_rF (gd_tf c2) ?_
     |refine plan_as (pick_f (gd_tf c2)) ?_
     |refine bool_false (gd_tf c2) ?_
     |refine sym_drawn hS (by kernel_rfl) ?_); conv => whnf)
    have hx : u = mnI l n d i := by
     have h3 := hm i (Nat.le_refl _) hi2
     unfold mnI at h3 ⊢
     omega
    refine .inl ?_
    conv => whnf
    have hnx := rR_next l n d hi2
    rw [← hx] at hnx
    have eK : maxI 0 (IntKind.i64.wrap (Int.ofNat u - 1)) = Int.ofNat (u - 1) := maxU (by omega)
    have hu1l : u - 1 < l.length := by omega
    have ul1 : u - 1 < (zl l).length := by rw [lz]; exact hu1l
    have n3 : nth (ivs (zl l)) ((u - 1) * 1) = some (nv (gn l (u - 1))) := by rw [nth_ivs1 ul1, gi_zl l hu1l]
    have k1 : IntKind.i64.wrap (Int.ofNat (u - 1) + 1) = Int.ofNat (u - 1 + 1) := wrapN (m := u - 1 + 1) (by omega)
    refine loop_set 8 rfl (congrArg (AV.int .i64) eK) ?_
    refine sym_unroll hE hS ?_
    conv => whnf
    refine bool_true (decide_eq_true (show Int.ofNat (u - 1) ≤ Int.ofNat u by show ((u - 1 : Nat) : Int) ≤ (u : Int); omega)) ?_
    conv => whnf
    repeat ((first
     |refine ko_rT (inR_t ul1) ?_
     |refine ko_sF (inR_t ul1) ?_
     |refine plan_as (pick_t (inR_t ul1)) ?_
     |refine bool_true (inR_t ul1) ?_
     |refine ko_rT (inR_t il) ?_
     |refine ko_sF (inR_t il) ?_
     |refine plan_as (pick_t (inR_t il)) ?_
     |refine bool_true (inR_t il) ?_
     |refine sym_drawn hS (by kernel_rfl) ?_); conv => whnf)
    refine plan_as (nthP (n3)) ?_
    conv => whnf
    repeat ((first
     |refine ko_rT (inR_t ul1) ?_
     |refine ko_sF (inR_t ul1) ?_
     |refine plan_as (pick_t (inR_t ul1)) ?_
     |refine bool_true (inR_t ul1) ?_
     |refine ko_rT (inR_t il) ?_
     |refine ko_sF (inR_t il) ?_
     |refine plan_as (pick_t (inR_t il)) ?_
     |refine bool_true (inR_t il) ?_
     |refine sym_drawn hS (by kernel_rfl) ?_); conv => whnf)
    refine plan_as (nthP (n2)) ?_
    conv => whnf
    repeat ((first
     |refine ko_rT (inR_t ul1) ?_
     |refine ko_sF (inR_t ul1) ?_
     |refine plan_as (pick_t (inR_t ul1)) ?_
     |refine bool_true (inR_t ul1) ?_
     |refine ko_rT (inR_t il) ?_
     |refine ko_sF (inR_t il) ?_
     |refine plan_as (pick_t (inR_t il)) ?_
     |refine bool_true (inR_t il) ?_
     |refine sym_drawn hS (by kernel_rfl) ?_); conv => whnf)
    refine bool_true (decide_eq_true (show ((zp (rR l n d i)).length + (0 + 1)) * 16 ≤ 140737488355328 by rw [zp_len]; omega)) ?_
    conv => whnf
    refine bool_true (decide_eq_true (show (zp (rR l n d i)).length + (0 + 1) ≤ 9223372036854775807 by rw [zp_len]; omega)) ?_
    conv => whnf
    refine bool_true (flat_lenIs (rR l n d i)) ?_
    conv => whnf
    refine bool_true (decide_eq_true (rfl)) ?_
    conv => whnf
    refine sym_drawn hS (by kernel_rfl) ?_
    conv => whnf
    by_cases hu0 : u = 0
    ·have hu1 : u - 1 = u := by omega
     rw [if_neg (by omega), List.nil_append] at hnx
     refine loop_set 8 rfl (congrArg (AV.int .i64) (k1.trans (by rw [show u - 1 + 1 = 1 by omega]) : IntKind.i64.wrap (Int.ofNat (u - 1) + 1) = Int.ofNat 1)) ?_
     refine sym_unroll hE hS ?_
     conv => whnf
     refine bool_false (decide_eq_false (show ¬ Int.ofNat 1 ≤ Int.ofNat u by show ¬ ((1 : Nat) : Int) ≤ (u : Int); omega)) ?_
     conv => whnf
     exact ⟨(i + 1, u, .lst (flat (zp (rR l n d i ++ [(gn l (u - 1), gn l i)]))) (zp (rR l n d i ++ [(gn l (u - 1), gn l i)])).length (.ch 1), [.chain (zp (rR l n d i ++ [(gn l (u - 1), gn l i)])).length 2 24]), [1], ⟨hi2, hu, fun j h3 h4 => hx ▸ mnI_mono hs n d (by omega) h4, .inr ⟨Nat.succ_pos _, by rw [hnx, hu1], by rw [hnx, hu1]⟩⟩, by show l.length - (i + 1) < l.length - i; omega, (by refine ⟨rfl, rfl, rfl, rfl, rfl, rfl, by decide, ?_, ?_, ?_, by kernel_rfl, ?_, ?_⟩ <;> repeat' (first | exact trivial | exact rfl | exact ⟨_, rfl, RnV.wk (WkV.refl _) (Nat.zero_le _)⟩ | exact ⟨_, rfl, RnV.wk (WkV.refl _) (Nat.le_of_ble_eq_true rfl)⟩ | exact TrIw.refl _ _ _ _ _ | exact OWk.same _ | exact OWk.loop _ _ _ _ _ _ _ (by repeat' (first | exact trivial | exact WkV.refl _ | exact WkV.unk _ | apply And.intro)) | exact Nat.zero_le _ | exact bz lL | exact ⟨_, rfl, RnV.wk (WkV.refl _) (bz lL)⟩ | exact ⟨_, rfl, RnV.wk (WkV.int (hi1 hi2)) (Nat.zero_le _)⟩ | exact ⟨_, rfl, rnB (l := rR l n d i) (q := (gn l (u - 1), gn l i)) (j := 0) (by decide) rfl rfl⟩ | exact chB (rR l n d i) (gn l (u - 1), gn l i) | exact OWk.eq (chB (rR l n d i) (gn l (u - 1), gn l i)) | exact Nat.le_of_ble_eq_true rfl | exact bdl_no (by assumption) | exact bdl_no (flat_no _) | exact bdl_no (ivs_no _) | exact bdl_no (svs_no _) | exact Nat.max_le.2 ⟨Nat.le_of_ble_eq_true rfl, bdl_no (ivs_no _)⟩ | exact Nat.max_le.2 ⟨Nat.le_of_ble_eq_true rfl, bdl_no (svs_no _)⟩ | apply And.intro))⟩
    ·rw [if_pos (by omega)] at hnx
     refine loop_set 8 rfl (congrArg (AV.int .i64) (k1.trans (by rw [show u - 1 + 1 = u by omega]) : IntKind.i64.wrap (Int.ofNat (u - 1) + 1) = Int.ofNat u)) ?_
     refine loop_set 5 rfl (pvA _ (gn l (u - 1), gn l i) _) ?_
     refine sym_unroll hE hS ?_
     conv => whnf
     refine bool_true (decide_eq_true (show Int.ofNat u ≤ Int.ofNat u from Int.le_refl _)) ?_
     conv => whnf
     repeat ((first
      |refine ko_rT (inR_t ul) ?_
      |refine ko_sF (inR_t ul) ?_
      |refine plan_as (pick_t (inR_t ul)) ?_
      |refine bool_true (inR_t ul) ?_
      |refine ko_rT (inR_t il) ?_
      |refine ko_sF (inR_t il) ?_
      |refine plan_as (pick_t (inR_t il)) ?_
      |refine bool_true (inR_t il) ?_
      |refine sym_drawn hS (by kernel_rfl) ?_); conv => whnf)
     refine plan_as (nthP (n1)) ?_
     conv => whnf
     repeat ((first
      |refine ko_rT (inR_t ul) ?_
      |refine ko_sF (inR_t ul) ?_
      |refine plan_as (pick_t (inR_t ul)) ?_
      |refine bool_true (inR_t ul) ?_
      |refine ko_rT (inR_t il) ?_
      |refine ko_sF (inR_t il) ?_
      |refine plan_as (pick_t (inR_t il)) ?_
      |refine bool_true (inR_t il) ?_
      |refine sym_drawn hS (by kernel_rfl) ?_); conv => whnf)
     refine plan_as (nthP (n2)) ?_
     conv => whnf
     repeat ((first
      |refine ko_rT (inR_t ul) ?_
      |refine ko_sF (inR_t ul) ?_
      |refine plan_as (pick_t (inR_t ul)) ?_
      |refine bool_true (inR_t ul) ?_
      |refine ko_rT (inR_t il) ?_
      |refine ko_sF (inR_t il) ?_
      |refine plan_as (pick_t (inR_t il)) ?_
      |refine bool_true (inR_t il) ?_
      |refine sym_drawn hS (by kernel_rfl) ?_); conv => whnf)
     refine bool_true (decide_eq_true (show ((zp (rR l n d i ++ [(gn l (u - 1), gn l i)])).length + (0 + 1)) * 16 ≤ 140737488355328 by rw [zp_len, List.length_append, List.length_cons, List.length_nil]; omega)) ?_
     conv => whnf
     refine bool_true (decide_eq_true (show (zp (rR l n d i ++ [(gn l (u - 1), gn l i)])).length + (0 + 1) ≤ 9223372036854775807 by rw [zp_len, List.length_append, List.length_cons, List.length_nil]; omega)) ?_
     conv => whnf
     refine bool_true (flat_lenIs (rR l n d i ++ [(gn l (u - 1), gn l i)])) ?_
     conv => whnf
     refine bool_true (decide_eq_true (by simp only [zp_len, List.length_append, List.length_cons, List.length_nil])) ?_
     conv => whnf
     refine sym_drawn hS (by kernel_rfl) ?_
     conv => whnf
     have k2 : IntKind.i64.wrap (Int.ofNat u + 1) = Int.ofNat (u + 1) := wrapN (m := u + 1) (by omega)
     refine loop_set 8 rfl (congrArg (AV.int .i64) k2) ?_
     refine sym_unroll hE hS ?_
     conv => whnf
     refine bool_false (decide_eq_false (show ¬ Int.ofNat (u + 1) ≤ Int.ofNat u by show ¬ ((u + 1 : Nat) : Int) ≤ (u : Int); omega)) ?_
     conv => whnf
     exact ⟨(i + 1, u, .lst (flat (zp (rR l n d i ++ [(gn l (u - 1), gn l i)] ++ [(gn l u, gn l i)]))) (zp (rR l n d i ++ [(gn l (u - 1), gn l i)] ++ [(gn l u, gn l i)])).length (.ch 1), [.chain (zp (rR l n d i ++ [(gn l (u - 1), gn l i)] ++ [(gn l u, gn l i)])).length 2 24]), [1], ⟨hi2, hu, fun j h3 h4 => hx ▸ mnI_mono hs n d (by omega) h4, .inr ⟨Nat.succ_pos _, by rw [hnx, List.append_assoc], by rw [hnx, List.append_assoc]⟩⟩, by show l.length - (i + 1) < l.length - i; omega, (by refine ⟨rfl, rfl, rfl, rfl, rfl, rfl, by decide, ?_, ?_, ?_, by kernel_rfl, ?_, ?_⟩ <;> repeat' (first | exact trivial | exact rfl | exact ⟨_, rfl, RnV.wk (WkV.refl _) (Nat.zero_le _)⟩ | exact ⟨_, rfl, RnV.wk (WkV.refl _) (Nat.le_of_ble_eq_true rfl)⟩ | exact TrIw.refl _ _ _ _ _ | exact OWk.same _ | exact OWk.loop _ _ _ _ _ _ _ (by repeat' (first | exact trivial | exact WkV.refl _ | exact WkV.unk _ | apply And.intro)) | exact Nat.zero_le _ | exact bz lL | exact ⟨_, rfl, RnV.wk (WkV.refl _) (bz lL)⟩ | exact ⟨_, rfl, RnV.wk (WkV.int (hi1 hi2)) (Nat.zero_le _)⟩ | exact ⟨_, rfl, rnB (l := rR l n d i ++ [(gn l (u - 1), gn l i)]) (q := (gn l u, gn l i)) (j := 0) (by decide) rfl rfl⟩ | exact chB (rR l n d i ++ [(gn l (u - 1), gn l i)]) (gn l u, gn l i) | exact OWk.eq (chB (rR l n d i ++ [(gn l (u - 1), gn l i)]) (gn l u, gn l i)) | exact Nat.le_of_ble_eq_true rfl | exact bdl_no (by assumption) | exact bdl_no (flat_no _) | exact bdl_no (ivs_no _) | exact bdl_no (svs_no _) | exact Nat.max_le.2 ⟨Nat.le_of_ble_eq_true rfl, bdl_no (ivs_no _)⟩ | exact Nat.max_le.2 ⟨Nat.le_of_ble_eq_true rfl, bdl_no (svs_no _)⟩ | apply And.intro))⟩
  ·have c1 : decide (Int.ofNat i < ((zl l).length : Int)) = false := decide_eq_false (by rw [lz]; show ¬ (i : Int) < _; omega)
   repeat ((first
    |refine ko_sT c1 ?_
    |refine ko_rF c1 ?_
    |refine plan_as (pick_f c1) ?_
    |refine bool_false c1 ?_
    |refine sym_drawn hS (by kernel_rfl) ?_); conv => whnf)
   have e : rR l n d i = rnF l n d := by
    unfold rR rnF
    rw [List.take_of_length_le (by omega)]
   rw [e]
   exact ⟨_, rfl, (WkV.own _ _ _).1⟩
end
end Go.Abs.Seat
