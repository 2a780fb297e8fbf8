/-
  The function known returns true.
  A piece as it comes in is one as defined, or not.
  Changes: what is spoilt, as the program and the document tell it.
  Changes: what is as defined, a piece with a change, what is spoilt, as the document tells it.
  Which hands a change spoils, as the document tells it.
-/
import Derived.Test.YtikikanopganaaaGreatDoorU11
import Derived.Test.YtikikanopganaaaGreatDoorU13
import Derived.Test.YtikikanopganaaaGreatDoorK3
import Derived.Test.YtikikanopganaaaGreatDoorL29
/-! The function known returns true. -/
namespace Go.Abs.Seat
open Go Go.Abs Go.Proofs.Tryz
set_option maxRecDepth 100000

noncomputable def table : Memo := [
 (21, [aP], .tup [rows .no [1, 1, 1, 2, 1, 3, 3, 4] 4, .lst [.bool true, .bool false, .bool true, .bool true] 4 .no, i64 0]),
 (37, [aP, .agg [i64 0, i64 10, i64 30]], .tup [ints .no [0, 1], i64 0]),
 (48, [aP, i64 10, i64 20, i64 0, fr 2 5], .tup [rows .no [1, 12, 15] 1, i64 0]),
 (41, [aP, i64 10, i64 20, fr 43 30], .tup [.agg [i64 0, i64 20, i64 14], i64 0]),
 (57, [i64 100, i64 2, ints .full [10, 20, 15, 10]], .tup [ints .no [0, 0, 0, 1], i64 2, i64 0]),
 (71, [i64 3, aE], .tup [ints .no [-9, 6, 3], i64 0]),
 (73, [i64 3, aE], .tup [rows .no [1, 0, 6, 2, 0, 3] 2, i64 0]),
 (15, [aB], .tup [i64 43, i64 23, i64 0]),
 (75, [aText], .tup [.agg [rows .no [0, 4, 4] 1, ints .no [1]], i64 0]),
 (67, [aW, aJ], .tup [ints .no [0, 1, 0], i64 112, i64 0]),
 (70, [aW, aJ, ints .full [0, 1, 0]], .tup [ints .no [2, 1, 3], i64 112, i64 0])]
theorem table_ok : MOK prog table := (MOK.cons pRates (MOK.cons pSpoils (MOK.cons pChanges (MOK.cons pAdds (MOK.cons pSheets (MOK.cons pBalances (MOK.cons pSettle (MOK.cons pBill (MOK.cons pRead (MOK.cons pPlan (MOK.cons pDone MOK.nil)))))))))))
theorem gknown : GoalM noMu table 14 [] (.bool true) := of_eq_true (by kernel_rfl)
theorem pknown : Pure prog 14 [] (.bool true) := gknown.pure table_ok (by kernel_rfl)

end Go.Abs.Seat

/-! A piece as it comes in is one as defined, or not. -/
namespace Go.Abs.Seat
noncomputable section
open Go Go.Abs Go.Proofs.Tryz
set_option maxRecDepth 100000
set_option maxHeartbeats 40000000

theorem piece_cases {x h : AV} {L : List LkI} {M : List Int} (hx : LL x L) (hh : IL h M) : ¬ (L.length ≤ 7 ∧ M.length ≤ 6) ∨ (L.length ≤ 7 ∧ M.length ≤ 6 ∧ ¬ pcOk L M) ∨ ∃ N H, pcN N H ∧ x = nkA N ∧ h = nl (zl H) := by
 by_cases hs : L.length ≤ 7 ∧ M.length ≤ 6
 ·by_cases hp : pcOk L M
  ·obtain ⟨N, H, rfl, rfl, hN⟩ := pcN_of hp
   refine .inr (.inr ⟨N, H, hN, ?_, ?_⟩)
   ·rcases hx with ⟨_, e⟩ | e
    ·have := hN.l1; rw [← cL_len, e] at this; exact absurd this (by decide)
    ·rw [e, nkA_eq]
   ·rcases hh with ⟨_, e⟩ | e
    ·have := hN.h1; rw [← zl_len, e] at this; exact absurd this (by decide)
    ·exact e
  ·exact .inr (.inl ⟨hs.1, hs.2, hp⟩)
 ·exact .inl hs
end
end Go.Abs.Seat

/-! Changes: what is spoilt, as the program and the document tell it. -/
namespace Go.Abs.Seat
noncomputable section
open Go Go.Abs Go.Proofs.Tryz
set_option maxRecDepth 100000
set_option maxHeartbeats 40000000
attribute [local irreducible] IntKind.wrap pEq

theorem wrN {N : List Lk} (h1 : 1 ≤ N.length) (h5 : N.length ≤ 5) : IntKind.i64.wrap ((N.length : Int) - 1) = (N.length : Int) - 1 := wrapI (by omega) (by omega)
def cgOk (N : List Lk) (i a b : Int) : Prop := (0 ≤ i ∧ i < (N.length : Int)) ∧ (tth a ∧ tth b) ∧ ¬ (a = Int.ofNat (gN N i.toNat).2.1 ∧ b = Int.ofNat (gN N i.toNat).2.2)
instance (N : List Lk) (i a b : Int) : Decidable (cgOk N i a b) := Classical.propDecidable _
theorem lkP0 {N : List Lk} {i : Nat} (h : i < N.length) : takeN 2 (dropN (i * 3 + 1) (lks (cL N))) = some [nv (gN N i).2.1, nv (gN N i).2.2] := by
 have := tak_lk2 (cL N) (i := i) (by rw [cL_len]; exact h)
 rwa [gL_cL N h] at this
theorem sSpoils_out {x h : AV} {L : List LkI} {M : List Int} (hx : LL x L) (hh : IL h M) (p : Pure prog 85 [.agg [x, h]] (.bool false)) (i a b : Int) : Pure prog 37 [.agg [x, h], .agg [iv i, iv a, iv b]] (.tup [.nils, iv 2]) := by
 have lx := hx.no
 have lh := hh.no
 rcases hx with ⟨rfl, rfl⟩ | rfl <;> rcases hh with ⟨rfl, rfl⟩ | rfl
 all_goals
  refine pure_sym hE rfl (by repeat' (first | exact trivial | assumption | exact flat_no _ | exact (fun _ h => nomatch h) | apply And.intro)) (by repeat' (first | exact trivial | assumption | exact flat_no _ | exact (fun _ h => nomatch h) | apply And.intro)) fun S q pc hS hq hC hE => ?_
  conv => whnf
  repeat ((first
   |refine sym_pure hC (p) ?_
   |refine sym_drawn hS (by kernel_rfl) ?_
   |refine sym_eq hq true (eqBool_same _ _) ?_
   |rw [beq_self_eq_true]
   |rw [bne_self_eq_false]); conv => whnf)
  exact ⟨_, rfl, Wk.refl _⟩
theorem sSpoils_no {N : List Lk} {H : List Nat} (h : pcN N H) {i a b : Int} (hc : ¬ cgOk N i a b) : Pure prog 37 [.agg [nkA N, nl (zl H)], .agg [iv i, iv a, iv b]] (.tup [.nils, iv 2]) := by
 have lN := lks_no (cL N)
 have lM := ivs_no (zl H)
 have hw := wrN h.l1 h.l5
 by_cases q1 : 0 ≤ i ∧ i < (N.length : Int)
 ·have c1 : (!decide (0 ≤ i ∧ i ≤ IntKind.i64.wrap ((N.length : Int) - 1))) = false := nt_t (decide_eq_true (by rw [hw]; omega))
  obtain ⟨k, rfl, _⟩ := int_nat (m := (N.length : Int)) (a := i) ⟨q1.1, by omega⟩
  have hk : k < N.length := Int.ofNat_lt.1 q1.2
  by_cases q2 : tth a ∧ tth b
  ·have c2 : (!decide (tth a ∧ tth b)) = false := nt_t (decide_eq_true q2)
   have q3 : a = Int.ofNat (gN N k).2.1 ∧ b = Int.ofNat (gN N k).2.2 := Classical.not_not.1 fun z => hc ⟨q1, q2, z⟩
   obtain ⟨rfl, rfl⟩ := q3
   refine pure_sym hE rfl (by repeat' (first | exact trivial | assumption | exact flat_no _ | exact (fun _ h => nomatch h) | apply And.intro)) (by repeat' (first | exact trivial | assumption | exact flat_no _ | exact (fun _ h => nomatch h) | apply And.intro)) fun S q pc hS hq hC hE => ?_
   conv => whnf
   repeat ((first
    |refine plan_as (takP (lkP0 hk)) ?_
    |refine ko_sT c1 ?_
    |refine ko_rF c1 ?_
    |refine plan_as (pick_f c1) ?_
    |refine bool_false c1 ?_
    |refine ko_sT c2 ?_
    |refine ko_rF c2 ?_
    |refine plan_as (pick_f c2) ?_
    |refine bool_false c2 ?_
    |refine ko_rT (gff c1) ?_
    |refine ko_sF (gff c1) ?_
    |refine plan_as (pick_t (gff c1)) ?_
    |refine bool_true (gff c1) ?_
    |refine ko_rT (gff c2) ?_
    |refine ko_sF (gff c2) ?_
    |refine plan_as (pick_t (gff c2)) ?_
    |refine bool_true (gff c2) ?_
    |refine ko_rT (inR_t hk) ?_
    |refine ko_sF (inR_t hk) ?_
    |refine plan_as (pick_t (inR_t hk)) ?_
    |refine bool_true (inR_t hk) ?_
    |refine sym_pure hC (h.isP) ?_
    |refine sym_pure hC (sin_pure (Int.ofNat k) 0 (IntKind.i64.wrap ((N.length : Int) - 1))) ?_
    |refine sym_pure hC (isPair_pure _ _) ?_
    |refine sym_drawn hS (by kernel_rfl) ?_); conv => whnf)
   refine sym_eq hq true (eqQ_same (.inr rfl) _ _ _) ?_
   conv => whnf
   repeat ((first
    |refine ko_sT c1 ?_
    |refine ko_rF c1 ?_
    |refine plan_as (pick_f c1) ?_
    |refine bool_false c1 ?_
    |refine ko_sT c2 ?_
    |refine ko_rF c2 ?_
    |refine plan_as (pick_f c2) ?_
    |refine bool_false c2 ?_
    |refine ko_rT (gff c1) ?_
    |refine ko_sF (gff c1) ?_
    |refine plan_as (pick_t (gff c1)) ?_
    |refine bool_true (gff c1) ?_
    |refine ko_rT (gff c2) ?_
    |refine ko_sF (gff c2) ?_
    |refine plan_as (pick_t (gff c2)) ?_
    |refine bool_true (gff c2) ?_
    |refine sym_drawn hS (by kernel_rfl) ?_); conv => whnf)
   exact ⟨_, rfl, Wk.refl _⟩
  ·have c2 : (!decide (tth a ∧ tth b)) = true := nt_f (decide_eq_false q2)
   refine pure_sym hE rfl (by repeat' (first | exact trivial | assumption | exact flat_no _ | exact (fun _ h => nomatch h) | apply And.intro)) (by repeat' (first | exact trivial | assumption | exact flat_no _ | exact (fun _ h => nomatch h) | apply And.intro)) fun S q pc hS hq hC hE => ?_
   conv => whnf
   repeat ((first
    |refine plan_as (takP (lkP0 hk)) ?_
    |refine ko_sT c1 ?_
    |refine ko_rF c1 ?_
    |refine plan_as (pick_f c1) ?_
    |refine bool_false c1 ?_
    |refine ko_rT c2 ?_
    |refine ko_sF c2 ?_
    |refine plan_as (pick_t c2) ?_
    |refine bool_true c2 ?_
    |refine ko_rT (gff c1) ?_
    |refine ko_sF (gff c1) ?_
    |refine plan_as (pick_t (gff c1)) ?_
    |refine bool_true (gff c1) ?_
    |refine ko_sT (gft c2) ?_
    |refine ko_rF (gft c2) ?_
    |refine plan_as (pick_f (gft c2)) ?_
    |refine bool_false (gft c2) ?_
    |refine ko_rT (inR_t hk) ?_
    |refine ko_sF (inR_t hk) ?_
    |refine plan_as (pick_t (inR_t hk)) ?_
    |refine bool_true (inR_t hk) ?_
    |refine sym_pure hC (h.isP) ?_
    |refine sym_pure hC (sin_pure (Int.ofNat k) 0 (IntKind.i64.wrap ((N.length : Int) - 1))) ?_
    |refine sym_pure hC (isPair_pure a b) ?_
    |refine sym_drawn hS (by kernel_rfl) ?_); conv => whnf)
   exact ⟨_, rfl, Wk.refl _⟩
 ·have c1 : (!decide (0 ≤ i ∧ i ≤ IntKind.i64.wrap ((N.length : Int) - 1))) = true := nt_f (decide_eq_false (by rw [hw]; omega))
  refine pure_sym hE rfl (by repeat' (first | exact trivial | assumption | exact flat_no _ | exact (fun _ h => nomatch h) | apply And.intro)) (by repeat' (first | exact trivial | assumption | exact flat_no _ | exact (fun _ h => nomatch h) | apply And.intro)) fun S q pc hS hq hC hE => ?_
  conv => whnf
  repeat ((first
   |refine ko_rT c1 ?_
   |refine ko_sF c1 ?_
   |refine plan_as (pick_t c1) ?_
   |refine bool_true c1 ?_
   |refine ko_sT (gft c1) ?_
   |refine ko_rF (gft c1) ?_
   |refine plan_as (pick_f (gft c1)) ?_
   |refine bool_false (gft c1) ?_
   |refine sym_pure hC (h.isP) ?_
   |refine sym_pure hC (sin_pure i 0 (IntKind.i64.wrap ((N.length : Int) - 1))) ?_
   |refine sym_drawn hS (by kernel_rfl) ?_); conv => whnf)
  exact ⟨_, rfl, Wk.refl _⟩
theorem pcN.len {N : List Lk} {H : List Nat} (h : pcN N H) {N2 : List Lk} (h2 : okN N2) (hl : N2.length = N.length) : pcN N2 H :=
 ⟨h2, by rw [hl]; exact h.l1, by rw [hl]; exact h.l5, h.h1, h.h4, fun x hx => by rw [hl]; exact h.hd x hx⟩
theorem sSpoils_yes {N : List Lk} {H : List Nat} (h : pcN N H) {i a b : Nat} (hi : i < N.length) (ha : tN a) (hb : tN b) (hc : ¬ (a = (gN N i).2.1 ∧ b = (gN N i).2.2)) : Pure prog 37 [.agg [nkA N, nl (zl H)], .agg [nv i, nv a, nv b]] (.tup [sv (zl (spL N (chN N i a b) H H.length)), iv 0]) := by
 have lN := lks_no (cL N)
 have lM := ivs_no (zl H)
 have hw := wrN h.l1 h.l5
 have h2 := h.ok.ch (i := i) (a := a) (b := b) hi ha hb
 have hl := chN_len N i a b
 have lN2 := lks_no (cL (chN N i a b))
 have c1 : (!decide (0 ≤ Int.ofNat i ∧ Int.ofNat i ≤ IntKind.i64.wrap ((N.length : Int) - 1))) = false := nt_t (decide_eq_true (by rw [hw]; simp only [Int.ofNat_eq_natCast]; omega))
 have c2 : (!decide (tth (Int.ofNat a) ∧ tth (Int.ofNat b))) = false := nt_t (decide_eq_true ⟨tN_i ha, tN_i hb⟩)
 have p1 := with_pure h.ok h.l1 h.l5 (zl H)
 have p2 := changed_pure h.l5 (zl H) hi a b
 have p3 := with_pure h2 (by rw [hl]; exact h.l1) (by rw [hl]; exact h.l5) (zl H)
 have p4 := spoils_pure h.ok h2 h.l5 hl h.hdN
 have lR := flat_no (zp (rtL N (N.length + 1)))
 have lR2 := flat_no (zp (rtL (chN N i a b) ((chN N i a b).length + 1)))
 have lv := sv_no (zl (spL N (chN N i a b) H H.length))
 unfold wiV at p1 p3 p4
 generalize spL N (chN N i a b) H H.length = l at *
 cases l
 all_goals
  refine pure_sym hE rfl (by repeat' (first | exact trivial | assumption | exact flat_no _ | exact (fun _ h => nomatch h) | apply And.intro)) (by repeat' (first | exact trivial | assumption | exact flat_no _ | exact (fun _ h => nomatch h) | apply And.intro)) fun S q pc hS hq hC hE => ?_
  conv => whnf
  repeat ((first
   |refine plan_as (takP (lkP0 hi)) ?_
   |refine ko_sT c1 ?_
   |refine ko_rF c1 ?_
   |refine plan_as (pick_f c1) ?_
   |refine bool_false c1 ?_
   |refine ko_sT c2 ?_
   |refine ko_rF c2 ?_
   |refine plan_as (pick_f c2) ?_
   |refine bool_false c2 ?_
   |refine ko_rT (gff c1) ?_
   |refine ko_sF (gff c1) ?_
   |refine plan_as (pick_t (gff c1)) ?_
   |refine bool_true (gff c1) ?_
   |refine ko_rT (gff c2) ?_
   |refine ko_sF (gff c2) ?_
   |refine plan_as (pick_t (gff c2)) ?_
   |refine bool_true (gff c2) ?_
   |refine ko_rT (inR_t hi) ?_
   |refine ko_sF (inR_t hi) ?_
   |refine plan_as (pick_t (inR_t hi)) ?_
   |refine bool_true (inR_t hi) ?_
   |refine sym_pure hC (h.isP) ?_
   |refine sym_pure hC (sin_pure (Int.ofNat i) 0 (IntKind.i64.wrap ((N.length : Int) - 1))) ?_
   |refine sym_pure hC (isPair_pure (Int.ofNat a) (Int.ofNat b)) ?_
   |refine sym_drawn hS (by kernel_rfl) ?_); conv => whnf)
  refine sym_eq hq false (eqQ_ne (.inr rfl) _ _ _ _ _ fun z => hc ⟨Int.ofNat.inj z.1, Int.ofNat.inj z.2⟩) ?_
  conv => whnf
  repeat ((first
   |refine ko_sT c1 ?_
   |refine ko_rF c1 ?_
   |refine plan_as (pick_f c1) ?_
   |refine bool_false c1 ?_
   |refine ko_sT c2 ?_
   |refine ko_rF c2 ?_
   |refine plan_as (pick_f c2) ?_
   |refine bool_false c2 ?_
   |refine ko_rT (gff c1) ?_
   |refine ko_sF (gff c1) ?_
   |refine plan_as (pick_t (gff c1)) ?_
   |refine bool_true (gff c1) ?_
   |refine ko_rT (gff c2) ?_
   |refine ko_sF (gff c2) ?_
   |refine plan_as (pick_t (gff c2)) ?_
   |refine bool_true (gff c2) ?_
   |refine sym_pure hC (p1) ?_
   |refine sym_pure hC (p2) ?_
   |refine sym_pure hC (p3) ?_
   |refine sym_pure hC (p4) ?_
   |refine sym_drawn hS (by kernel_rfl) ?_); conv => whnf)
  exact ⟨_, rfl, Wk.refl _⟩
end
end Go.Abs.Seat

/-! Changes: what is as defined, a piece with a change, what is spoilt, as the document tells it. -/
namespace Go.Abs.Seat
noncomputable section
open Go Go.Abs Go.Proofs.Tryz
set_option maxRecDepth 100000
set_option maxHeartbeats 40000000
attribute [local irreducible] IntKind.wrap pEq

theorem rChange_pure {N : List Lk} {H : List Nat} (h : pcN N H) (i a b : Int) : Pure prog 38 [.agg [nkA N, nl (zl H)], .agg [iv i, iv a, iv b]] (.bool (decide (cgOk N i a b))) := by
 have lN := lks_no (cL N)
 have lM := ivs_no (zl H)
 have hw := wrN h.l1 h.l5
 by_cases q1 : 0 ≤ i ∧ i < (N.length : Int)
 ·have c1 : decide (0 ≤ i ∧ i ≤ IntKind.i64.wrap ((N.length : Int) - 1)) = true := decide_eq_true (by rw [hw]; omega)
  obtain ⟨k, rfl, _⟩ := int_nat (m := (N.length : Int)) (a := i) ⟨q1.1, by omega⟩
  have hk : k < N.length := Int.ofNat_lt.1 q1.2
  by_cases q2 : tth a ∧ tth b
  ·have c2 : decide (tth a ∧ tth b) = true := decide_eq_true q2
   by_cases q3 : a = Int.ofNat (gN N k).2.1 ∧ b = Int.ofNat (gN N k).2.2
   ·rw [decide_eq_false fun z : cgOk N (Int.ofNat k) a b => z.2.2 q3]
    obtain ⟨rfl, rfl⟩ := q3
    refine pure_sym hE rfl (by repeat' (first | exact trivial | assumption | exact flat_no _ | exact (fun _ h => nomatch h) | apply And.intro)) (by repeat' (first | exact trivial | assumption | exact flat_no _ | exact (fun _ h => nomatch h) | apply And.intro)) fun S q pc hS hq hC hE => ?_
    conv => whnf
    repeat ((first
     |refine plan_as (takP (lkP0 hk)) ?_
     |refine ko_rT c1 ?_
     |refine ko_sF c1 ?_
     |refine plan_as (pick_t c1) ?_
     |refine bool_true c1 ?_
     |refine ko_rT c2 ?_
     |refine ko_sF c2 ?_
     |refine plan_as (pick_t c2) ?_
     |refine bool_true c2 ?_
     |refine ko_rT (gd_tt c1) ?_
     |refine ko_sF (gd_tt c1) ?_
     |refine plan_as (pick_t (gd_tt c1)) ?_
     |refine bool_true (gd_tt c1) ?_
     |refine ko_rT (gd_tt c2) ?_
     |refine ko_sF (gd_tt c2) ?_
     |refine plan_as (pick_t (gd_tt c2)) ?_
     |refine bool_true (gd_tt c2) ?_
     |refine ko_rT (inR_t hk) ?_
     |refine ko_sF (inR_t hk) ?_
     |refine plan_as (pick_t (inR_t hk)) ?_
     |refine bool_true (inR_t hk) ?_
     |refine sym_pure hC (in9_pure (Int.ofNat k) 0 (IntKind.i64.wrap ((N.length : Int) - 1))) ?_
     |refine sym_pure hC (rPair9_pure _ _) ?_
     |refine sym_drawn hS (by kernel_rfl) ?_); conv => whnf)
    refine sym_eq hq true (eqQ_same (.inr rfl) _ _ _) ?_
    conv => whnf
    repeat ((first
     |refine ko_rT c1 ?_
     |refine ko_sF c1 ?_
     |refine plan_as (pick_t c1) ?_
     |refine bool_true c1 ?_
     |refine ko_rT c2 ?_
     |refine ko_sF c2 ?_
     |refine plan_as (pick_t c2) ?_
     |refine bool_true c2 ?_
     |refine ko_rT (gd_tt c1) ?_
     |refine ko_sF (gd_tt c1) ?_
     |refine plan_as (pick_t (gd_tt c1)) ?_
     |refine bool_true (gd_tt c1) ?_
     |refine ko_rT (gd_tt c2) ?_
     |refine ko_sF (gd_tt c2) ?_
     |refine plan_as (pick_t (gd_tt c2)) ?_
     |refine bool_true (gd_tt c2) ?_
     |refine sym_drawn hS (by kernel_rfl) ?_); conv => whnf)
    exact ⟨_, rfl, Wk.refl _⟩
   ·rw [decide_eq_true (show cgOk N (Int.ofNat k) a b from ⟨q1, q2, q3⟩)]
    refine pure_sym hE rfl (by repeat' (first | exact trivial | assumption | exact flat_no _ | exact (fun _ h => nomatch h) | apply And.intro)) (by repeat' (first | exact trivial | assumption | exact flat_no _ | exact (fun _ h => nomatch h) | apply And.intro)) fun S q pc hS hq hC hE => ?_
    conv => whnf
    repeat ((first
     |refine plan_as (takP (lkP0 hk)) ?_
     |refine ko_rT c1 ?_
     |refine ko_sF c1 ?_
     |refine plan_as (pick_t c1) ?_
     |refine bool_true c1 ?_
     |refine ko_rT c2 ?_
     |refine ko_sF c2 ?_
     |refine plan_as (pick_t c2) ?_
     |refine bool_true c2 ?_
     |refine ko_rT (gd_tt c1) ?_
     |refine ko_sF (gd_tt c1) ?_
     |refine plan_as (pick_t (gd_tt c1)) ?_
     |refine bool_true (gd_tt c1) ?_
     |refine ko_rT (gd_tt c2) ?_
     |refine ko_sF (gd_tt c2) ?_
     |refine plan_as (pick_t (gd_tt c2)) ?_
     |refine bool_true (gd_tt c2) ?_
     |refine ko_rT (inR_t hk) ?_
     |refine ko_sF (inR_t hk) ?_
     |refine plan_as (pick_t (inR_t hk)) ?_
     |refine bool_true (inR_t hk) ?_
     |refine sym_pure hC (in9_pure (Int.ofNat k) 0 (IntKind.i64.wrap ((N.length : Int) - 1))) ?_
     |refine sym_pure hC (rPair9_pure a b) ?_
     |refine sym_drawn hS (by kernel_rfl) ?_); conv => whnf)
    refine sym_eq hq false (eqQ_ne (.inr rfl) _ _ _ _ _ fun z => q3 ⟨z.1.symm, z.2.symm⟩) ?_
    conv => whnf
    repeat ((first
     |refine ko_rT c1 ?_
     |refine ko_sF c1 ?_
     |refine plan_as (pick_t c1) ?_
     |refine bool_true c1 ?_
     |refine ko_rT c2 ?_
     |refine ko_sF c2 ?_
     |refine plan_as (pick_t c2) ?_
     |refine bool_true c2 ?_
     |refine ko_rT (gd_tt c1) ?_
     |refine ko_sF (gd_tt c1) ?_
     |refine plan_as (pick_t (gd_tt c1)) ?_
     |refine bool_true (gd_tt c1) ?_
     |refine ko_rT (gd_tt c2) ?_
     |refine ko_sF (gd_tt c2) ?_
     |refine plan_as (pick_t (gd_tt c2)) ?_
     |refine bool_true (gd_tt c2) ?_
     |refine sym_drawn hS (by kernel_rfl) ?_); conv => whnf)
    exact ⟨_, rfl, Wk.refl _⟩
  ·have c2 : decide (tth a ∧ tth b) = false := decide_eq_false q2
   rw [decide_eq_false fun z : cgOk N (Int.ofNat k) a b => q2 z.2.1]
   refine pure_sym hE rfl (by repeat' (first | exact trivial | assumption | exact flat_no _ | exact (fun _ h => nomatch h) | apply And.intro)) (by repeat' (first | exact trivial | assumption | exact flat_no _ | exact (fun _ h => nomatch h) | apply And.intro)) fun S q pc hS hq hC hE => ?_
   conv => whnf
   repeat ((first
    |refine plan_as (takP (lkP0 hk)) ?_
    |refine ko_rT c1 ?_
    |refine ko_sF c1 ?_
    |refine plan_as (pick_t c1) ?_
    |refine bool_true c1 ?_
    |refine ko_sT c2 ?_
    |refine ko_rF c2 ?_
    |refine plan_as (pick_f c2) ?_
    |refine bool_false c2 ?_
    |refine ko_rT (gd_tt c1) ?_
    |refine ko_sF (gd_tt c1) ?_
    |refine plan_as (pick_t (gd_tt c1)) ?_
    |refine bool_true (gd_tt c1) ?_
    |refine ko_sT (gd_tf c2) ?_
    |refine ko_rF (gd_tf c2) ?_
    |refine plan_as (pick_f (gd_tf c2)) ?_
    |refine bool_false (gd_tf c2) ?_
    |refine ko_rT (inR_t hk) ?_
    |refine ko_sF (inR_t hk) ?_
    |refine plan_as (pick_t (inR_t hk)) ?_
    |refine bool_true (inR_t hk) ?_
    |refine sym_pure hC (in9_pure (Int.ofNat k) 0 (IntKind.i64.wrap ((N.length : Int) - 1))) ?_
    |refine sym_pure hC (rPair9_pure a b) ?_
    |refine sym_drawn hS (by kernel_rfl) ?_); conv => whnf)
   exact ⟨_, rfl, Wk.refl _⟩
 ·have c1 : decide (0 ≤ i ∧ i ≤ IntKind.i64.wrap ((N.length : Int) - 1)) = false := decide_eq_false (by rw [hw]; omega)
  rw [decide_eq_false fun z : cgOk N i a b => q1 z.1]
  refine pure_sym hE rfl (by repeat' (first | exact trivial | assumption | exact flat_no _ | exact (fun _ h => nomatch h) | apply And.intro)) (by repeat' (first | exact trivial | assumption | exact flat_no _ | exact (fun _ h => nomatch h) | apply And.intro)) fun S q pc hS hq hC hE => ?_
  conv => whnf
  repeat ((first
   |refine ko_sT c1 ?_
   |refine ko_rF c1 ?_
   |refine plan_as (pick_f c1) ?_
   |refine bool_false c1 ?_
   |refine ko_sT (gd_tf c1) ?_
   |refine ko_rF (gd_tf c1) ?_
   |refine plan_as (pick_f (gd_tf c1)) ?_
   |refine bool_false (gd_tf c1) ?_
   |refine sym_pure hC (in9_pure i 0 (IntKind.i64.wrap ((N.length : Int) - 1))) ?_
   |refine sym_drawn hS (by kernel_rfl) ?_); conv => whnf)
  exact ⟨_, rfl, Wk.refl _⟩
def muR : MuT := fun d t => match d with | some d => (Nat.beq d 9) && (Nat.beq t 32) | Option.none => false
theorem rChanged_pure {N : List Lk} (h5 : N.length ≤ 5) (M : List Int) {i : Nat} (hi : i < N.length) (a b : Nat) : Pure prog 100 [.agg [nkA N, nl M], .agg [nv i, nv a, nv b]] (.agg [nkA (chN N i a b), nl M]) := by
 have lM := ivs_no M
 have lC := lks_no (cL (chN N i a b))
 rcases N with _ | ⟨x0, _ | ⟨x1, _ | ⟨x2, _ | ⟨x3, _ | ⟨x4, _ | ⟨x5, r⟩⟩⟩⟩⟩⟩
 ·exact absurd hi (Nat.not_lt_zero _)
 ·have lN := lks_no (cL [x0])
  obtain rfl : i = 0 := by simp only [List.length_cons, List.length_nil] at hi; omega
  refine pure_symF (hEM muR) rfl (by repeat' (first | exact trivial | assumption | exact flat_no _ | exact (fun _ h => nomatch h) | apply And.intro)) (by repeat' (first | exact trivial | assumption | exact flat_no _ | exact (fun _ h => nomatch h) | apply And.intro)) fun S q pc hS hq hC hE => ?_
  conv => whnf
  exact ⟨_, rfl, FzV.agg ⟨FzV.slcN rfl rfl (chkT.at (by repeat' (first | exact trivial | kernel_rfl | apply And.intro))) lC, FzV.no ⟨lM, fun _ e => nomatch e⟩, trivial⟩⟩
 ·have lN := lks_no (cL [x0, x1])
  have hc : i = 0 ∨ i = 1 := by simp only [List.length_cons, List.length_nil] at hi; omega
  rcases hc with rfl | rfl
  all_goals
   refine pure_symF (hEM muR) rfl (by repeat' (first | exact trivial | assumption | exact flat_no _ | exact (fun _ h => nomatch h) | apply And.intro)) (by repeat' (first | exact trivial | assumption | exact flat_no _ | exact (fun _ h => nomatch h) | apply And.intro)) fun S q pc hS hq hC hE => ?_
   conv => whnf
   exact ⟨_, rfl, FzV.agg ⟨FzV.slcN rfl rfl (chkT.at (by repeat' (first | exact trivial | kernel_rfl | apply And.intro))) lC, FzV.no ⟨lM, fun _ e => nomatch e⟩, trivial⟩⟩
 ·have lN := lks_no (cL [x0, x1, x2])
  have hc : i = 0 ∨ i = 1 ∨ i = 2 := by simp only [List.length_cons, List.length_nil] at hi; omega
  rcases hc with rfl | rfl | rfl
  all_goals
   refine pure_symF (hEM muR) rfl (by repeat' (first | exact trivial | assumption | exact flat_no _ | exact (fun _ h => nomatch h) | apply And.intro)) (by repeat' (first | exact trivial | assumption | exact flat_no _ | exact (fun _ h => nomatch h) | apply And.intro)) fun S q pc hS hq hC hE => ?_
   conv => whnf
   exact ⟨_, rfl, FzV.agg ⟨FzV.slcN rfl rfl (chkT.at (by repeat' (first | exact trivial | kernel_rfl | apply And.intro))) lC, FzV.no ⟨lM, fun _ e => nomatch e⟩, trivial⟩⟩
 ·have lN := lks_no (cL [x0, x1, x2, x3])
  have hc : i = 0 ∨ i = 1 ∨ i = 2 ∨ i = 3 := by simp only [List.length_cons, List.length_nil] at hi; omega
  rcases hc with rfl | rfl | rfl | rfl
  all_goals
   refine pure_symF (hEM muR) rfl (by repeat' (first | exact trivial | assumption | exact flat_no _ | exact (fun _ h => nomatch h) | apply And.intro)) (by repeat' (first | exact trivial | assumption | exact flat_no _ | exact (fun _ h => nomatch h) | apply And.intro)) fun S q pc hS hq hC hE => ?_
   conv => whnf
   exact ⟨_, rfl, FzV.agg ⟨FzV.slcN rfl rfl (chkT.at (by repeat' (first | exact trivial | kernel_rfl | apply And.intro))) lC, FzV.no ⟨lM, fun _ e => nomatch e⟩, trivial⟩⟩
 ·have lN := lks_no (cL [x0, x1, x2, x3, x4])
  have hc : i = 0 ∨ i = 1 ∨ i = 2 ∨ i = 3 ∨ i = 4 := by simp only [List.length_cons, List.length_nil] at hi; omega
  rcases hc with rfl | rfl | rfl | rfl | rfl
  all_goals
   refine pure_symF (hEM muR) rfl (by repeat' (first | exact trivial | assumption | exact flat_no _ | exact (fun _ h => nomatch h) | apply And.intro)) (by repeat' (first | exact trivial | assumption | exact flat_no _ | exact (fun _ h => nomatch h) | apply And.intro)) fun S q pc hS hq hC hE => ?_
   conv => whnf
   exact ⟨_, rfl, FzV.agg ⟨FzV.slcN rfl rfl (chkT.at (by repeat' (first | exact trivial | kernel_rfl | apply And.intro))) lC, FzV.no ⟨lM, fun _ e => nomatch e⟩, trivial⟩⟩
 ·simp only [List.length_cons] at h5
  omega
end
end Go.Abs.Seat

/-! Which hands a change spoils, as the document tells it. -/
namespace Go.Abs.Seat
noncomputable section
open Go Go.Abs Go.Proofs.Tryz
set_option maxRecDepth 100000
set_option maxHeartbeats 40000000
attribute [local irreducible] IntKind.wrap pEq

theorem rsm_red {N N2 : List Lk} (h : okN N) (h2 : okN N2) {a : Nat} (ha : a ≤ N.length) (ha2 : a ≤ N2.length) : rdA N a = rdA N2 a ↔ rsm (rtA N a) (rtA N2 a) :=
 redF_eq (rtA_le h ha).2.1 (rtA_le h2 ha2).2.1
theorem rSpoils_pure {N : List Lk} {H : List Nat} (h : pcN N H) {k a b : Nat} (hk : k < N.length) (ha : tN a) (hb : tN b) :
  Pure prog 40 [.agg [nkA N, nl (zl H)], .agg [nv k, nv a, nv b]] (sv (zl (spL N (chN N k a b) H H.length))) := by
 have h2 : pcN (chN N k a b) H := h.len (h.ok.ch hk ha hb) (chN_len N k a b)
 have pcg := rChanged_pure h.l5 (zl H) hk a b
 have lN := lks_no (cL N)
 have lN2 := lks_no (cL (chN N k a b))
 have lM := ivs_no (zl H)
 have lv := sv_no (zl (spL N (chN N k a b) H H.length))
 have hz := zl_len H
 have h4 := h.h4
 generalize chN N k a b = N2 at *
 refine pure_sym hE rfl (by repeat' (first | exact trivial | assumption | exact flat_no _ | exact (fun _ h => nomatch h) | apply And.intro)) (by repeat' (first | exact trivial | assumption | exact flat_no _ | exact (fun _ h => nomatch h) | apply And.intro)) fun S q pc hS hq hC hE => ?_
 conv => whnf
 refine sym_pure hC (pcg) ?_
 conv => whnf
 refine sym_loopR hE hS (A := Nat × AV × List AObj) [] (fun x hx => nomatch hx) [2, 6] (fun (i, v, _) => [(5, v), (7, nv i)]) (fun _ => []) (fun a => a.2.2) (fun (i, v, ux) => i ≤ H.length ∧ (spL N N2 H i = [] ∧ v = .nils ∧ ux = [] ∨ spL N N2 H i ≠ [] ∧ v = .lst (ivs (zl (spL N N2 H i))) (spL N N2 H i).length (.ch 3) ∧ ux = [.chain (spL N N2 H i).length 1 3])) (fun (i, _) => H.length - i) (0, .nils, []) (Nat.le_of_ble_eq_true rfl) trivial rfl (by repeat' (first | exact trivial | exact Nat.zero_le _ | exact bdl_no lN | exact bdl_no lN2 | exact bdl_no lM | exact Nat.le_of_ble_eq_true rfl | exact bdl_no (by assumption) | exact bdl_no (flat_no _) | exact bdl_no (ivs_no _) | exact bdl_no (svs_no _) | exact Nat.max_le.2 ⟨Nat.le_of_ble_eq_true rfl, bdl_no (ivs_no _)⟩ | exact Nat.max_le.2 ⟨Nat.le_of_ble_eq_true rfl, bdl_no (svs_no _)⟩ | apply And.intro)) (by refine ⟨rfl, rfl, rfl, rfl, rfl, rfl, by decide, ?_, ?_, ?_, by kernel_rfl, ?_, ?_⟩ <;> repeat' (first | exact trivial | exact rfl | exact ⟨_, rfl, RnV.wk (WkV.refl _) (Nat.zero_le _)⟩ | exact ⟨_, rfl, RnV.wk (WkV.refl _) (Nat.le_of_ble_eq_true rfl)⟩ | exact TrIw.refl _ _ _ _ _ | exact OWk.same _ | exact OWk.loop _ _ _ _ _ _ _ (by repeat' (first | exact trivial | exact WkV.refl _ | exact WkV.unk _ | apply And.intro)) | exact Nat.zero_le _ | exact bdl_no lN | exact bdl_no lN2 | exact bdl_no lM | exact Nat.le_of_ble_eq_true rfl | exact bdl_no (by assumption) | exact bdl_no (flat_no _) | exact bdl_no (ivs_no _) | exact bdl_no (svs_no _) | exact Nat.max_le.2 ⟨Nat.le_of_ble_eq_true rfl, bdl_no (ivs_no _)⟩ | exact Nat.max_le.2 ⟨Nat.le_of_ble_eq_true rfl, bdl_no (svs_no _)⟩ | apply And.intro)) ⟨Nat.zero_le _, .inl ⟨rfl, rfl, rfl⟩⟩ ?_
 rintro ⟨i, v, ux⟩ ⟨hi, ⟨he, rfl, rfl⟩ | ⟨he, rfl, rfl⟩⟩ K hK
 ·obtain rfl : K = 3 := hK
  conv => whnf
  by_cases hi2 : i < H.length
  ·have hiz : i < (zl H).length := by omega
   have hg := h.hd _ (gn_mem H hi2)
   have g0 : nth (ivs (zl H)) (i * 1) = some (nv (gn H i)) := by rw [nth_ivs1 hiz, gi_zl H hi2]
   have e3 := rsm_red h.ok h2.ok hg.2 (h2.hd _ (gn_mem H hi2)).2
   have hi1 : IntKind.i64.wrap (Int.ofNat i + 1) = Int.ofNat (i + 1) := wrapN (m := i + 1) (by omega)
   refine bool_true (ltN_t hiz) ?_
   conv => whnf
   refine bool_true (inR_t hiz) ?_
   conv => whnf
   refine plan_as (nthP (g0)) ?_
   conv => whnf
   refine sym_pure hC (rRate_pure h hg.2) ?_
   conv => whnf
   refine bool_true (inR_t hiz) ?_
   conv => whnf
   refine plan_as (nthP (g0)) ?_
   conv => whnf
   refine sym_pure hC (rRate_pure h2 (h2.hd _ (gn_mem H hi2)).2) ?_
   conv => whnf
   by_cases hs : rsm (rtA N (gn H i)) (rtA N2 (gn H i))
   ·have e1 : spL N N2 H (i + 1) = [] := by rw [spL, if_pos hs, he]; rfl
    have hq' : ∀ cst, q0 36 cst (fv (rdA N (gn H i)).1 (rdA N (gn H i)).2) (fv (rdA N2 (gn H i)).1 (rdA N2 (gn H i)).2) = some true := fun cst => by rw [e3.2 hs]; exact eqQ_same (.inl rfl) cst _ _
    refine sym_eq hq true (hq' _) ?_
    conv => whnf
    refine sym_drawn hS (by kernel_rfl) ?_
    conv => whnf
    exact ⟨(i + 1, .nils, []), [], ⟨hi2, .inl ⟨e1, rfl, rfl⟩⟩, by show H.length - (i + 1) < H.length - i; omega, (by refine ⟨rfl, rfl, rfl, rfl, rfl, rfl, by decide, ?_, ?_, ?_, by kernel_rfl, ?_, ?_⟩ <;> repeat' (first | exact trivial | exact rfl | exact ⟨_, rfl, RnV.wk (WkV.refl _) (Nat.zero_le _)⟩ | exact ⟨_, rfl, RnV.wk (WkV.refl _) (Nat.le_of_ble_eq_true rfl)⟩ | exact TrIw.refl _ _ _ _ _ | exact OWk.same _ | exact OWk.loop _ _ _ _ _ _ _ (by repeat' (first | exact trivial | exact WkV.refl _ | exact WkV.unk _ | apply And.intro)) | exact Nat.zero_le _ | exact ⟨_, rfl, RnV.wk (WkV.refl _) (bz (nl_no (zl H)))⟩ | exact bdl_no lN | exact bdl_no lN2 | exact bdl_no lM | exact ⟨_, rfl, RnV.wk (WkV.int hi1) (Nat.zero_le _)⟩ | exact Nat.le_of_ble_eq_true rfl | exact bdl_no (by assumption) | exact bdl_no (flat_no _) | exact bdl_no (ivs_no _) | exact bdl_no (svs_no _) | exact Nat.max_le.2 ⟨Nat.le_of_ble_eq_true rfl, bdl_no (ivs_no _)⟩ | exact Nat.max_le.2 ⟨Nat.le_of_ble_eq_true rfl, bdl_no (svs_no _)⟩ | apply And.intro))⟩
   ·have e1 : spL N N2 H (i + 1) = [i] := by rw [spL, if_neg hs, he]; rfl
    refine sym_eq hq false (eqQ_ne (.inl rfl) _ _ _ _ _ fun z => hs (e3.1 (Prod.ext (Int.ofNat.inj z.1) (Int.ofNat.inj z.2)))) ?_
    conv => whnf
    refine sym_drawn hS (by kernel_rfl) ?_
    conv => whnf
    exact ⟨(i + 1, .lst [nv i] 1 (.ch 3), [.chain 1 1 3]), [18], ⟨hi2, .inr ⟨by rw [e1]; simp, by rw [e1]; rfl, by rw [e1]; rfl⟩⟩, by show H.length - (i + 1) < H.length - i; omega, (by refine ⟨rfl, rfl, rfl, rfl, rfl, rfl, by decide, ?_, ?_, ?_, by kernel_rfl, ?_, ?_⟩ <;> repeat' (first | exact trivial | exact rfl | exact ⟨_, rfl, RnV.wk (WkV.refl _) (Nat.zero_le _)⟩ | exact ⟨_, rfl, RnV.wk (WkV.refl _) (Nat.le_of_ble_eq_true rfl)⟩ | exact TrIw.refl _ _ _ _ _ | exact OWk.same _ | exact OWk.loop _ _ _ _ _ _ _ (by repeat' (first | exact trivial | exact WkV.refl _ | exact WkV.unk _ | apply And.intro)) | exact Nat.zero_le _ | exact ⟨_, rfl, RnV.wk (WkV.refl _) (bz (nl_no (zl H)))⟩ | exact bdl_no lN | exact bdl_no lN2 | exact bdl_no lM | exact ⟨_, rfl, RnV.wk (WkV.int hi1) (Nat.zero_le _)⟩ | exact ⟨_, rfl, rnC (j := 0) (by decide) rfl rfl ⟨trivial, trivial⟩⟩ | exact Nat.le_of_ble_eq_true rfl | exact bdl_no (by assumption) | exact bdl_no (flat_no _) | exact bdl_no (ivs_no _) | exact bdl_no (svs_no _) | exact Nat.max_le.2 ⟨Nat.le_of_ble_eq_true rfl, bdl_no (ivs_no _)⟩ | exact Nat.max_le.2 ⟨Nat.le_of_ble_eq_true rfl, bdl_no (svs_no _)⟩ | apply And.intro))⟩
  ·refine bool_false (ltN_f (show ¬ i < (zl H).length by omega)) ?_
   conv => whnf
   have e : i = H.length := by omega
   rw [← e, he]
   exact ⟨_, rfl, Wk.refl _⟩
 ·obtain rfl : K = 4 := hK
  conv => whnf
  by_cases hi2 : i < H.length
  ·have hiz : i < (zl H).length := by omega
   have hg := h.hd _ (gn_mem H hi2)
   have g0 : nth (ivs (zl H)) (i * 1) = some (nv (gn H i)) := by rw [nth_ivs1 hiz, gi_zl H hi2]
   have e3 := rsm_red h.ok h2.ok hg.2 (h2.hd _ (gn_mem H hi2)).2
   have hi1 : IntKind.i64.wrap (Int.ofNat i + 1) = Int.ofNat (i + 1) := wrapN (m := i + 1) (by omega)
   refine bool_true (ltN_t hiz) ?_
   conv => whnf
   refine bool_true (inR_t hiz) ?_
   conv => whnf
   refine plan_as (nthP (g0)) ?_
   conv => whnf
   refine sym_pure hC (rRate_pure h hg.2) ?_
   conv => whnf
   refine bool_true (inR_t hiz) ?_
   conv => whnf
   refine plan_as (nthP (g0)) ?_
   conv => whnf
   refine sym_pure hC (rRate_pure h2 (h2.hd _ (gn_mem H hi2)).2) ?_
   conv => whnf
   have hsl := spL_len N N2 H i
   by_cases hs : rsm (rtA N (gn H i)) (rtA N2 (gn H i))
   ·have e1 : spL N N2 H (i + 1) = spL N N2 H i := by rw [spL, if_pos hs, List.append_nil]
    have hq' : ∀ cst, q0 36 cst (fv (rdA N (gn H i)).1 (rdA N (gn H i)).2) (fv (rdA N2 (gn H i)).1 (rdA N2 (gn H i)).2) = some true := fun cst => by rw [e3.2 hs]; exact eqQ_same (.inl rfl) cst _ _
    refine sym_eq hq true (hq' _) ?_
    conv => whnf
    refine sym_drawn hS (by kernel_rfl) ?_
    conv => whnf
    exact ⟨(i + 1, .lst (ivs (zl (spL N N2 H i))) (spL N N2 H i).length (.ch 3), [.chain (spL N N2 H i).length 1 3]), [3], ⟨hi2, .inr ⟨by rw [e1]; exact he, by rw [e1], by rw [e1]⟩⟩, by show H.length - (i + 1) < H.length - i; omega, (by refine ⟨rfl, rfl, rfl, rfl, rfl, rfl, by decide, ?_, ?_, ?_, by kernel_rfl, ?_, ?_⟩ <;> repeat' (first | exact trivial | exact rfl | exact ⟨_, rfl, RnV.wk (WkV.refl _) (Nat.zero_le _)⟩ | exact ⟨_, rfl, RnV.wk (WkV.refl _) (Nat.le_of_ble_eq_true rfl)⟩ | exact TrIw.refl _ _ _ _ _ | exact OWk.same _ | exact OWk.loop _ _ _ _ _ _ _ (by repeat' (first | exact trivial | exact WkV.refl _ | exact WkV.unk _ | apply And.intro)) | exact Nat.zero_le _ | exact ⟨_, rfl, RnV.wk (WkV.refl _) (bz (nl_no (zl H)))⟩ | exact bdl_no lN | exact bdl_no lN2 | exact bdl_no lM | exact ⟨_, rfl, RnV.wk (WkV.int hi1) (Nat.zero_le _)⟩ | exact ⟨_, rfl, rnC (j := 0) (by decide) rfl rfl (ivs_no _)⟩ | exact Nat.le_of_ble_eq_true rfl | exact bdl_no (by assumption) | exact bdl_no (flat_no _) | exact bdl_no (ivs_no _) | exact bdl_no (svs_no _) | exact Nat.max_le.2 ⟨Nat.le_of_ble_eq_true rfl, bdl_no (ivs_no _)⟩ | exact Nat.max_le.2 ⟨Nat.le_of_ble_eq_true rfl, bdl_no (svs_no _)⟩ | apply And.intro))⟩
   ·have e1 : spL N N2 H (i + 1) = spL N N2 H i ++ [i] := by rw [spL, if_neg hs]
    refine sym_eq hq false (eqQ_ne (.inl rfl) _ _ _ _ _ fun z => hs (e3.1 (Prod.ext (Int.ofNat.inj z.1) (Int.ofNat.inj z.2)))) ?_
    conv => whnf
    refine sym_drawn hS (by kernel_rfl) ?_
    conv => whnf
    refine bool_true (decide_eq_true (show ((spL N N2 H i).length + (0 + 1)) * 8 ≤ 140737488355328 by omega)) ?_
    conv => whnf
    refine bool_true (decide_eq_true (show (spL N N2 H i).length + (0 + 1) ≤ 9223372036854775807 by omega)) ?_
    conv => whnf
    refine bool_true (lenIs_zl (spL N N2 H i)) ?_
    conv => whnf
    refine bool_true (decide_eq_true rfl) ?_
    conv => whnf
    exact ⟨(i + 1, .lst (ivs (zl (spL N N2 H i ++ [i]))) (spL N N2 H i ++ [i]).length (.ch 3), [.chain (spL N N2 H i ++ [i]).length 1 3]), [3], ⟨hi2, .inr ⟨by rw [e1]; simp, by rw [e1], by rw [e1]⟩⟩, by show H.length - (i + 1) < H.length - i; omega, (by refine ⟨rfl, rfl, rfl, rfl, rfl, rfl, by decide, ?_, ?_, ?_, by kernel_rfl, ?_, ?_⟩ <;> repeat' (first | exact trivial | exact rfl | exact ⟨_, rfl, RnV.wk (WkV.refl _) (Nat.zero_le _)⟩ | exact ⟨_, rfl, RnV.wk (WkV.refl _) (Nat.le_of_ble_eq_true rfl)⟩ | exact TrIw.refl _ _ _ _ _ | exact OWk.same _ | exact OWk.loop _ _ _ _ _ _ _ (by repeat' (first | exact trivial | exact WkV.refl _ | exact WkV.unk _ | apply And.intro)) | exact Nat.zero_le _ | exact ⟨_, rfl, RnV.wk (WkV.refl _) (bz (nl_no (zl H)))⟩ | exact bdl_no lN | exact bdl_no lN2 | exact bdl_no lM | exact ⟨_, rfl, RnV.wk (WkV.int hi1) (Nat.zero_le _)⟩ | exact ⟨_, rfl, rnI (j := 0) (by decide) rfl rfl⟩ | exact app_ch _ _ | exact Nat.le_of_ble_eq_true rfl | exact bdl_no (by assumption) | exact bdl_no (flat_no _) | exact bdl_no (ivs_no _) | exact bdl_no (svs_no _) | exact Nat.max_le.2 ⟨Nat.le_of_ble_eq_true rfl, bdl_no (ivs_no _)⟩ | exact Nat.max_le.2 ⟨Nat.le_of_ble_eq_true rfl, bdl_no (svs_no _)⟩ | apply And.intro))⟩
  ·refine bool_false (ltN_f (show ¬ i < (zl H).length by omega)) ?_
   conv => whnf
   have e : i = H.length := by omega
   rw [← e, sv_zl he]
   exact ⟨_, rfl, wk_zl _ 3⟩
end
end Go.Abs.Seat
