/-
  The law TopFeasts, of whatever input.
-/
import Derived.Test.YtcnidgafdonioaaGreatVE95
namespace Go.Abs.Seat
noncomputable section
open Go Go.Abs Go.Proofs.Tryz
set_option maxRecDepth 100000
set_option maxHeartbeats 40000000
attribute [local irreducible] IntKind.wrap pEq pSlice
def FL (v:AV) (l:List Ft):Prop :=v = .nils ∧ l = [] ∨ v = ftL l
theorem FL.no {v:AV} {l:List Ft} (h:FL v l):Live noL v :=by
 rcases h with ⟨rfl,_⟩ | rfl
 ·trivial
 ·exact ⟨fts_no l,fun _ h => nomatch h⟩
theorem topFeasts (hk:Pure prog 7 [] (.bool true)) (E:Int) {cv:AV} {C:List Int} (hC:IL cv C) (n d a:Int) {lv:AV} {l:List Ft} (hL:FL lv l) (y:Int) {v:AV} {k:Nat} (hv:(∃ x y,TV v k x y) ∨ TN v k) (fn fd m u:Int) :
  Pure prog 4 [.agg [iv E,cv],mnV n d a,lv,iv y,v,fv fn fd,iv m,iv u] (.bool true) :=by
 have ll :=hL.no
 have lv:Live noL v :=by
  rcases hv with ⟨_,_,tv⟩ | tn
  ·obtain ⟨xs,rfl,lx⟩ :=tv.sh;exact ⟨lx,fun _ h => nomatch h⟩
  ·rcases tn.sh with ⟨rfl,_⟩ | ⟨xs,rfl,lx⟩
   ·trivial
   ·exact ⟨lx,fun _ h => nomatch h⟩
 rcases hC with ⟨rfl,rfl⟩ | rfl
 ·have pCal :=rCalendar_nil E
  refine pure_sym hE rfl (by repeat' (first | exact trivial | assumption | exact flat_no _ | exact (fun _ h => nomatch h) | apply And.intro)) (by repeat' (first | exact trivial | assumption | exact flat_no _ | exact (fun _ h => nomatch h) | apply And.intro)) fun S q pc hS hq hC hE => ?_
  conv => whnf
  repeat ((first
   |refine ko_rT c1 ?_
   |refine ko_sF c1 ?_
   |refine plan_as (pick_t c1) ?_
   |refine bool_true c1 ?_
   |refine ko_sT c1 ?_
   |refine ko_rF c1 ?_
   |refine plan_as (pick_f c1) ?_
   |refine bool_false c1 ?_
   |refine ko_rT c4 ?_
   |refine ko_sF c4 ?_
   |refine plan_as (pick_t c4) ?_
   |refine bool_true c4 ?_
   |refine ko_sT c4 ?_
   |refine ko_rF c4 ?_
   |refine plan_as (pick_f c4) ?_
   |refine bool_false c4 ?_
   |refine ko_rT c5 ?_
   |refine ko_sF c5 ?_
   |refine plan_as (pick_t c5) ?_
   |refine bool_true c5 ?_
   |refine ko_sT c5 ?_
   |refine ko_rF c5 ?_
   |refine plan_as (pick_f c5) ?_
   |refine bool_false c5 ?_
   |refine ko_rT c8 ?_
   |refine ko_sF c8 ?_
   |refine plan_as (pick_t c8) ?_
   |refine bool_true c8 ?_
   |refine ko_sT c8 ?_
   |refine ko_rF c8 ?_
   |refine plan_as (pick_f c8) ?_
   |refine bool_false c8 ?_
   |refine sym_pure hC (pCal) ?_
   |refine sym_pure hC (pMoon) ?_
   |refine sym_pure hC (pFts) ?_
   |refine sym_pure hC (pYear) ?_
   |refine sym_pure hC (pTr) ?_
   |refine sym_pure hC (pF) ?_
   |refine sym_pure hC (pL) ?_
   |refine sym_pure hC (pN) ?_
   |refine sym_pure hC (hk) ?_
   |refine sym_drawn hS (by kernel_rfl) ?_);conv => whnf)
  exact ⟨_,rfl,Wk.refl _⟩
 have lC :=ivs_no C
 by_cases h3:C.length ≤ 3
 case neg =>
  have c1:decide ((C.length:Int) > 3) = true :=decide_eq_true (by omega)
  refine pure_sym hE rfl (by repeat' (first | exact trivial | assumption | exact flat_no _ | exact (fun _ h => nomatch h) | apply And.intro)) (by repeat' (first | exact trivial | assumption | exact flat_no _ | exact (fun _ h => nomatch h) | apply And.intro)) fun S q pc hS hq hC hE => ?_
  conv => whnf
  repeat ((first
   |refine ko_rT c1 ?_
   |refine ko_sF c1 ?_
   |refine plan_as (pick_t c1) ?_
   |refine bool_true c1 ?_
   |refine ko_rT c4 ?_
   |refine ko_sF c4 ?_
   |refine plan_as (pick_t c4) ?_
   |refine bool_true c4 ?_
   |refine ko_sT c4 ?_
   |refine ko_rF c4 ?_
   |refine plan_as (pick_f c4) ?_
   |refine bool_false c4 ?_
   |refine ko_rT c5 ?_
   |refine ko_sF c5 ?_
   |refine plan_as (pick_t c5) ?_
   |refine bool_true c5 ?_
   |refine ko_sT c5 ?_
   |refine ko_rF c5 ?_
   |refine plan_as (pick_f c5) ?_
   |refine bool_false c5 ?_
   |refine ko_rT c8 ?_
   |refine ko_sF c8 ?_
   |refine plan_as (pick_t c8) ?_
   |refine bool_true c8 ?_
   |refine ko_sT c8 ?_
   |refine ko_rF c8 ?_
   |refine plan_as (pick_f c8) ?_
   |refine bool_false c8 ?_
   |refine sym_pure hC (pCal) ?_
   |refine sym_pure hC (pMoon) ?_
   |refine sym_pure hC (pFts) ?_
   |refine sym_pure hC (pYear) ?_
   |refine sym_pure hC (pTr) ?_
   |refine sym_pure hC (pF) ?_
   |refine sym_pure hC (pL) ?_
   |refine sym_pure hC (pN) ?_
   |refine sym_pure hC (hk) ?_
   |refine sym_drawn hS (by kernel_rfl) ?_);conv => whnf)
  exact ⟨_,rfl,Wk.refl _⟩
 have c1:decide ((C.length:Int) > 3) = false :=decide_eq_false (by omega)
 have pCal :=rCalendar_pure E C h3
 by_cases hcal:calOk E C
 case neg =>
  rw [decide_eq_false hcal] at pCal
  refine pure_sym hE rfl (by repeat' (first | exact trivial | assumption | exact flat_no _ | exact (fun _ h => nomatch h) | apply And.intro)) (by repeat' (first | exact trivial | assumption | exact flat_no _ | exact (fun _ h => nomatch h) | apply And.intro)) fun S q pc hS hq hC hE => ?_
  conv => whnf
  repeat ((first
   |refine ko_sT c1 ?_
   |refine ko_rF c1 ?_
   |refine plan_as (pick_f c1) ?_
   |refine bool_false c1 ?_
   |refine ko_rT c4 ?_
   |refine ko_sF c4 ?_
   |refine plan_as (pick_t c4) ?_
   |refine bool_true c4 ?_
   |refine ko_sT c4 ?_
   |refine ko_rF c4 ?_
   |refine plan_as (pick_f c4) ?_
   |refine bool_false c4 ?_
   |refine ko_rT c5 ?_
   |refine ko_sF c5 ?_
   |refine plan_as (pick_t c5) ?_
   |refine bool_true c5 ?_
   |refine ko_sT c5 ?_
   |refine ko_rF c5 ?_
   |refine plan_as (pick_f c5) ?_
   |refine bool_false c5 ?_
   |refine ko_rT c8 ?_
   |refine ko_sF c8 ?_
   |refine plan_as (pick_t c8) ?_
   |refine bool_true c8 ?_
   |refine ko_sT c8 ?_
   |refine ko_rF c8 ?_
   |refine plan_as (pick_f c8) ?_
   |refine bool_false c8 ?_
   |refine sym_pure hC (pCal) ?_
   |refine sym_pure hC (pMoon) ?_
   |refine sym_pure hC (pFts) ?_
   |refine sym_pure hC (pYear) ?_
   |refine sym_pure hC (pTr) ?_
   |refine sym_pure hC (pF) ?_
   |refine sym_pure hC (pL) ?_
   |refine sym_pure hC (pN) ?_
   |refine sym_pure hC (hk) ?_
   |refine sym_drawn hS (by kernel_rfl) ?_);conv => whnf)
  exact ⟨_,rfl,Wk.refl _⟩
 rw [decide_eq_true hcal] at pCal
 have pMoon :=rMoon_pure n d a
 by_cases hm:moonOk n d a
 case neg =>
  rw [decide_eq_false hm] at pMoon
  refine pure_sym hE rfl (by repeat' (first | exact trivial | assumption | exact flat_no _ | exact (fun _ h => nomatch h) | apply And.intro)) (by repeat' (first | exact trivial | assumption | exact flat_no _ | exact (fun _ h => nomatch h) | apply And.intro)) fun S q pc hS hq hC hE => ?_
  conv => whnf
  repeat ((first
   |refine ko_sT c1 ?_
   |refine ko_rF c1 ?_
   |refine plan_as (pick_f c1) ?_
   |refine bool_false c1 ?_
   |refine ko_rT c4 ?_
   |refine ko_sF c4 ?_
   |refine plan_as (pick_t c4) ?_
   |refine bool_true c4 ?_
   |refine ko_sT c4 ?_
   |refine ko_rF c4 ?_
   |refine plan_as (pick_f c4) ?_
   |refine bool_false c4 ?_
   |refine ko_rT c5 ?_
   |refine ko_sF c5 ?_
   |refine plan_as (pick_t c5) ?_
   |refine bool_true c5 ?_
   |refine ko_sT c5 ?_
   |refine ko_rF c5 ?_
   |refine plan_as (pick_f c5) ?_
   |refine bool_false c5 ?_
   |refine ko_rT c8 ?_
   |refine ko_sF c8 ?_
   |refine plan_as (pick_t c8) ?_
   |refine bool_true c8 ?_
   |refine ko_sT c8 ?_
   |refine ko_rF c8 ?_
   |refine plan_as (pick_f c8) ?_
   |refine bool_false c8 ?_
   |refine sym_pure hC (pCal) ?_
   |refine sym_pure hC (pMoon) ?_
   |refine sym_pure hC (pFts) ?_
   |refine sym_pure hC (pYear) ?_
   |refine sym_pure hC (pTr) ?_
   |refine sym_pure hC (pF) ?_
   |refine sym_pure hC (pL) ?_
   |refine sym_pure hC (pN) ?_
   |refine sym_pure hC (hk) ?_
   |refine sym_drawn hS (by kernel_rfl) ?_);conv => whnf)
  exact ⟨_,rfl,Wk.refl _⟩
 rw [decide_eq_true hm] at pMoon
 rcases hL with ⟨rfl,rfl⟩ | rfl
 ·refine pure_sym hE rfl (by repeat' (first | exact trivial | assumption | exact flat_no _ | exact (fun _ h => nomatch h) | apply And.intro)) (by repeat' (first | exact trivial | assumption | exact flat_no _ | exact (fun _ h => nomatch h) | apply And.intro)) fun S q pc hS hq hC hE => ?_
  conv => whnf
  repeat ((first
   |refine ko_sT c1 ?_
   |refine ko_rF c1 ?_
   |refine plan_as (pick_f c1) ?_
   |refine bool_false c1 ?_
   |refine ko_rT c4 ?_
   |refine ko_sF c4 ?_
   |refine plan_as (pick_t c4) ?_
   |refine bool_true c4 ?_
   |refine ko_sT c4 ?_
   |refine ko_rF c4 ?_
   |refine plan_as (pick_f c4) ?_
   |refine bool_false c4 ?_
   |refine ko_rT c5 ?_
   |refine ko_sF c5 ?_
   |refine plan_as (pick_t c5) ?_
   |refine bool_true c5 ?_
   |refine ko_sT c5 ?_
   |refine ko_rF c5 ?_
   |refine plan_as (pick_f c5) ?_
   |refine bool_false c5 ?_
   |refine ko_rT c8 ?_
   |refine ko_sF c8 ?_
   |refine plan_as (pick_t c8) ?_
   |refine bool_true c8 ?_
   |refine ko_sT c8 ?_
   |refine ko_rF c8 ?_
   |refine plan_as (pick_f c8) ?_
   |refine bool_false c8 ?_
   |refine sym_pure hC (pCal) ?_
   |refine sym_pure hC (pMoon) ?_
   |refine sym_pure hC (pFts) ?_
   |refine sym_pure hC (pYear) ?_
   |refine sym_pure hC (pTr) ?_
   |refine sym_pure hC (pF) ?_
   |refine sym_pure hC (pL) ?_
   |refine sym_pure hC (pN) ?_
   |refine sym_pure hC (hk) ?_
   |refine sym_drawn hS (by kernel_rfl) ?_);conv => whnf)
  exact ⟨_,rfl,Wk.refl _⟩
 have ll' :=fts_no l
 by_cases h6:l.length ≤ 6
 case neg =>
  have c4:decide ((l.length:Int) > 6) = true :=decide_eq_true (by omega)
  refine pure_sym hE rfl (by repeat' (first | exact trivial | assumption | exact flat_no _ | exact (fun _ h => nomatch h) | apply And.intro)) (by repeat' (first | exact trivial | assumption | exact flat_no _ | exact (fun _ h => nomatch h) | apply And.intro)) fun S q pc hS hq hC hE => ?_
  conv => whnf
  repeat ((first
   |refine ko_sT c1 ?_
   |refine ko_rF c1 ?_
   |refine plan_as (pick_f c1) ?_
   |refine bool_false c1 ?_
   |refine ko_rT c4 ?_
   |refine ko_sF c4 ?_
   |refine plan_as (pick_t c4) ?_
   |refine bool_true c4 ?_
   |refine ko_rT c5 ?_
   |refine ko_sF c5 ?_
   |refine plan_as (pick_t c5) ?_
   |refine bool_true c5 ?_
   |refine ko_sT c5 ?_
   |refine ko_rF c5 ?_
   |refine plan_as (pick_f c5) ?_
   |refine bool_false c5 ?_
   |refine ko_rT c8 ?_
   |refine ko_sF c8 ?_
   |refine plan_as (pick_t c8) ?_
   |refine bool_true c8 ?_
   |refine ko_sT c8 ?_
   |refine ko_rF c8 ?_
   |refine plan_as (pick_f c8) ?_
   |refine bool_false c8 ?_
   |refine sym_pure hC (pCal) ?_
   |refine sym_pure hC (pMoon) ?_
   |refine sym_pure hC (pFts) ?_
   |refine sym_pure hC (pYear) ?_
   |refine sym_pure hC (pTr) ?_
   |refine sym_pure hC (pF) ?_
   |refine sym_pure hC (pL) ?_
   |refine sym_pure hC (pN) ?_
   |refine sym_pure hC (hk) ?_
   |refine sym_drawn hS (by kernel_rfl) ?_);conv => whnf)
  exact ⟨_,rfl,Wk.refl _⟩
 have c4:decide ((l.length:Int) > 6) = false :=decide_eq_false (by omega)
 by_cases h1:1 ≤ l.length
 case neg =>
  have c5:decide ((l.length:Int) < 1) = true :=decide_eq_true (by omega)
  refine pure_sym hE rfl (by repeat' (first | exact trivial | assumption | exact flat_no _ | exact (fun _ h => nomatch h) | apply And.intro)) (by repeat' (first | exact trivial | assumption | exact flat_no _ | exact (fun _ h => nomatch h) | apply And.intro)) fun S q pc hS hq hC hE => ?_
  conv => whnf
  repeat ((first
   |refine ko_sT c1 ?_
   |refine ko_rF c1 ?_
   |refine plan_as (pick_f c1) ?_
   |refine bool_false c1 ?_
   |refine ko_sT c4 ?_
   |refine ko_rF c4 ?_
   |refine plan_as (pick_f c4) ?_
   |refine bool_false c4 ?_
   |refine ko_rT c5 ?_
   |refine ko_sF c5 ?_
   |refine plan_as (pick_t c5) ?_
   |refine bool_true c5 ?_
   |refine ko_rT c8 ?_
   |refine ko_sF c8 ?_
   |refine plan_as (pick_t c8) ?_
   |refine bool_true c8 ?_
   |refine ko_sT c8 ?_
   |refine ko_rF c8 ?_
   |refine plan_as (pick_f c8) ?_
   |refine bool_false c8 ?_
   |refine sym_pure hC (pCal) ?_
   |refine sym_pure hC (pMoon) ?_
   |refine sym_pure hC (pFts) ?_
   |refine sym_pure hC (pYear) ?_
   |refine sym_pure hC (pTr) ?_
   |refine sym_pure hC (pF) ?_
   |refine sym_pure hC (pL) ?_
   |refine sym_pure hC (pN) ?_
   |refine sym_pure hC (hk) ?_
   |refine sym_drawn hS (by kernel_rfl) ?_);conv => whnf)
  exact ⟨_,rfl,Wk.refl _⟩
 have c5:decide ((l.length:Int) < 1) = false :=decide_eq_false (by omega)
 have pFts :=rFts_pure l h6
 by_cases hl:ftsOk l
 case neg =>
  rw [decide_eq_false hl] at pFts
  refine pure_sym hE rfl (by repeat' (first | exact trivial | assumption | exact flat_no _ | exact (fun _ h => nomatch h) | apply And.intro)) (by repeat' (first | exact trivial | assumption | exact flat_no _ | exact (fun _ h => nomatch h) | apply And.intro)) fun S q pc hS hq hC hE => ?_
  conv => whnf
  repeat ((first
   |refine ko_sT c1 ?_
   |refine ko_rF c1 ?_
   |refine plan_as (pick_f c1) ?_
   |refine bool_false c1 ?_
   |refine ko_sT c4 ?_
   |refine ko_rF c4 ?_
   |refine plan_as (pick_f c4) ?_
   |refine bool_false c4 ?_
   |refine ko_sT c5 ?_
   |refine ko_rF c5 ?_
   |refine plan_as (pick_f c5) ?_
   |refine bool_false c5 ?_
   |refine ko_rT c8 ?_
   |refine ko_sF c8 ?_
   |refine plan_as (pick_t c8) ?_
   |refine bool_true c8 ?_
   |refine ko_sT c8 ?_
   |refine ko_rF c8 ?_
   |refine plan_as (pick_f c8) ?_
   |refine bool_false c8 ?_
   |refine sym_pure hC (pCal) ?_
   |refine sym_pure hC (pMoon) ?_
   |refine sym_pure hC (pFts) ?_
   |refine sym_pure hC (pYear) ?_
   |refine sym_pure hC (pTr) ?_
   |refine sym_pure hC (pF) ?_
   |refine sym_pure hC (pL) ?_
   |refine sym_pure hC (pN) ?_
   |refine sym_pure hC (hk) ?_
   |refine sym_drawn hS (by kernel_rfl) ?_);conv => whnf)
  exact ⟨_,rfl,Wk.refl _⟩
 rw [decide_eq_true hl] at pFts
 have pYear :=rYear_pure y
 by_cases hy:0 ≤ y ∧ y ≤ 4000
 case neg =>
  rw [decide_eq_false hy] at pYear
  refine pure_sym hE rfl (by repeat' (first | exact trivial | assumption | exact flat_no _ | exact (fun _ h => nomatch h) | apply And.intro)) (by repeat' (first | exact trivial | assumption | exact flat_no _ | exact (fun _ h => nomatch h) | apply And.intro)) fun S q pc hS hq hC hE => ?_
  conv => whnf
  repeat ((first
   |refine ko_sT c1 ?_
   |refine ko_rF c1 ?_
   |refine plan_as (pick_f c1) ?_
   |refine bool_false c1 ?_
   |refine ko_sT c4 ?_
   |refine ko_rF c4 ?_
   |refine plan_as (pick_f c4) ?_
   |refine bool_false c4 ?_
   |refine ko_sT c5 ?_
   |refine ko_rF c5 ?_
   |refine plan_as (pick_f c5) ?_
   |refine bool_false c5 ?_
   |refine ko_rT c8 ?_
   |refine ko_sF c8 ?_
   |refine plan_as (pick_t c8) ?_
   |refine bool_true c8 ?_
   |refine ko_sT c8 ?_
   |refine ko_rF c8 ?_
   |refine plan_as (pick_f c8) ?_
   |refine bool_false c8 ?_
   |refine sym_pure hC (pCal) ?_
   |refine sym_pure hC (pMoon) ?_
   |refine sym_pure hC (pFts) ?_
   |refine sym_pure hC (pYear) ?_
   |refine sym_pure hC (pTr) ?_
   |refine sym_pure hC (pF) ?_
   |refine sym_pure hC (pL) ?_
   |refine sym_pure hC (pN) ?_
   |refine sym_pure hC (hk) ?_
   |refine sym_drawn hS (by kernel_rfl) ?_);conv => whnf)
  exact ⟨_,rfl,Wk.refl _⟩
 rw [decide_eq_true hy] at pYear
 rcases hv with ⟨p,g,tv⟩ | tn
 case inr =>
  by_cases h8:k ≤ 3
  ·have pTr :=tn.rT (by omega)
   have c8:decide ((k:Int) > 3) = false :=decide_eq_false (by omega)
   rcases tn.sh with ⟨rfl,rfl⟩ | ⟨xs,rfl,lx⟩
   all_goals
    refine pure_sym hE rfl (by repeat' (first | exact trivial | assumption | exact flat_no _ | exact (fun _ h => nomatch h) | apply And.intro)) (by repeat' (first | exact trivial | assumption | exact flat_no _ | exact (fun _ h => nomatch h) | apply And.intro)) fun S q pc hS hq hC hE => ?_
    conv => whnf
    repeat ((first
     |refine ko_sT c1 ?_
     |refine ko_rF c1 ?_
     |refine plan_as (pick_f c1) ?_
     |refine bool_false c1 ?_
     |refine ko_sT c4 ?_
     |refine ko_rF c4 ?_
     |refine plan_as (pick_f c4) ?_
     |refine bool_false c4 ?_
     |refine ko_sT c5 ?_
     |refine ko_rF c5 ?_
     |refine plan_as (pick_f c5) ?_
     |refine bool_false c5 ?_
     |refine ko_sT c8 ?_
     |refine ko_rF c8 ?_
     |refine plan_as (pick_f c8) ?_
     |refine bool_false c8 ?_
     |refine sym_pure hC (pCal) ?_
     |refine sym_pure hC (pMoon) ?_
     |refine sym_pure hC (pFts) ?_
     |refine sym_pure hC (pYear) ?_
     |refine sym_pure hC (pTr) ?_
     |refine sym_pure hC (pF) ?_
     |refine sym_pure hC (pL) ?_
     |refine sym_pure hC (pN) ?_
     |refine sym_pure hC (hk) ?_
     |refine sym_drawn hS (by kernel_rfl) ?_);conv => whnf)
    exact ⟨_,rfl,Wk.refl _⟩
  ·have c8:decide ((k:Int) > 3) = true :=decide_eq_true (by omega)
   rcases tn.sh with ⟨rfl,rfl⟩ | ⟨xs,rfl,lx⟩
   ·omega
   ·refine pure_sym hE rfl (by repeat' (first | exact trivial | assumption | exact flat_no _ | exact (fun _ h => nomatch h) | apply And.intro)) (by repeat' (first | exact trivial | assumption | exact flat_no _ | exact (fun _ h => nomatch h) | apply And.intro)) fun S q pc hS hq hC hE => ?_
    conv => whnf
    repeat ((first
     |refine ko_sT c1 ?_
     |refine ko_rF c1 ?_
     |refine plan_as (pick_f c1) ?_
     |refine bool_false c1 ?_
     |refine ko_sT c4 ?_
     |refine ko_rF c4 ?_
     |refine plan_as (pick_f c4) ?_
     |refine bool_false c4 ?_
     |refine ko_sT c5 ?_
     |refine ko_rF c5 ?_
     |refine plan_as (pick_f c5) ?_
     |refine bool_false c5 ?_
     |refine ko_rT c8 ?_
     |refine ko_sF c8 ?_
     |refine plan_as (pick_t c8) ?_
     |refine bool_true c8 ?_
     |refine sym_pure hC (pCal) ?_
     |refine sym_pure hC (pMoon) ?_
     |refine sym_pure hC (pFts) ?_
     |refine sym_pure hC (pYear) ?_
     |refine sym_pure hC (pTr) ?_
     |refine sym_pure hC (pF) ?_
     |refine sym_pure hC (pL) ?_
     |refine sym_pure hC (pN) ?_
     |refine sym_pure hC (hk) ?_
     |refine sym_drawn hS (by kernel_rfl) ?_);conv => whnf)
    exact ⟨_,rfl,Wk.refl _⟩
 have pTr :=tv.rT
 have c8:decide ((k:Int) > 3) = false :=decide_eq_false (by have :=tv.k1;omega)
 have pF :=rFraction_pure fn fd
 have pL :=rLimit_pure m
 have pN :=rNumber_pure u
 have tv2 :=tv
 by_cases hF:isF fn fd
 case neg =>
  obtain ⟨xs,rfl,lx⟩ :=tv.sh
  rw [decide_eq_false hF] at pF
  refine pure_sym hE rfl (by repeat' (first | exact trivial | assumption | exact flat_no _ | exact (fun _ h => nomatch h) | apply And.intro)) (by repeat' (first | exact trivial | assumption | exact flat_no _ | exact (fun _ h => nomatch h) | apply And.intro)) fun S q pc hS hq hC hE => ?_
  conv => whnf
  repeat ((first
   |refine ko_sT c1 ?_
   |refine ko_rF c1 ?_
   |refine plan_as (pick_f c1) ?_
   |refine bool_false c1 ?_
   |refine ko_sT c4 ?_
   |refine ko_rF c4 ?_
   |refine plan_as (pick_f c4) ?_
   |refine bool_false c4 ?_
   |refine ko_sT c5 ?_
   |refine ko_rF c5 ?_
   |refine plan_as (pick_f c5) ?_
   |refine bool_false c5 ?_
   |refine ko_sT c8 ?_
   |refine ko_rF c8 ?_
   |refine plan_as (pick_f c8) ?_
   |refine bool_false c8 ?_
   |refine sym_pure hC (pCal) ?_
   |refine sym_pure hC (pMoon) ?_
   |refine sym_pure hC (pFts) ?_
   |refine sym_pure hC (pYear) ?_
   |refine sym_pure hC (pTr) ?_
   |refine sym_pure hC (pF) ?_
   |refine sym_pure hC (pL) ?_
   |refine sym_pure hC (pN) ?_
   |refine sym_pure hC (hk) ?_
   |refine sym_drawn hS (by kernel_rfl) ?_);conv => whnf)
  exact ⟨_,rfl,Wk.refl _⟩
 rw [decide_eq_true hF] at pF
 by_cases hM:0 ≤ m ∧ m ≤ 10800
 case neg =>
  obtain ⟨xs,rfl,lx⟩ :=tv.sh
  rw [decide_eq_false hM] at pL
  refine pure_sym hE rfl (by repeat' (first | exact trivial | assumption | exact flat_no _ | exact (fun _ h => nomatch h) | apply And.intro)) (by repeat' (first | exact trivial | assumption | exact flat_no _ | exact (fun _ h => nomatch h) | apply And.intro)) fun S q pc hS hq hC hE => ?_
  conv => whnf
  repeat ((first
   |refine ko_sT c1 ?_
   |refine ko_rF c1 ?_
   |refine plan_as (pick_f c1) ?_
   |refine bool_false c1 ?_
   |refine ko_sT c4 ?_
   |refine ko_rF c4 ?_
   |refine plan_as (pick_f c4) ?_
   |refine bool_false c4 ?_
   |refine ko_sT c5 ?_
   |refine ko_rF c5 ?_
   |refine plan_as (pick_f c5) ?_
   |refine bool_false c5 ?_
   |refine ko_sT c8 ?_
   |refine ko_rF c8 ?_
   |refine plan_as (pick_f c8) ?_
   |refine bool_false c8 ?_
   |refine sym_pure hC (pCal) ?_
   |refine sym_pure hC (pMoon) ?_
   |refine sym_pure hC (pFts) ?_
   |refine sym_pure hC (pYear) ?_
   |refine sym_pure hC (pTr) ?_
   |refine sym_pure hC (pF) ?_
   |refine sym_pure hC (pL) ?_
   |refine sym_pure hC (pN) ?_
   |refine sym_pure hC (hk) ?_
   |refine sym_drawn hS (by kernel_rfl) ?_);conv => whnf)
  exact ⟨_,rfl,Wk.refl _⟩
 rw [decide_eq_true hM] at pL
 by_cases hU:0 ≤ u ∧ u ≤ 10000
 case neg =>
  obtain ⟨xs,rfl,lx⟩ :=tv.sh
  rw [decide_eq_false hU] at pN
  refine pure_sym hE rfl (by repeat' (first | exact trivial | assumption | exact flat_no _ | exact (fun _ h => nomatch h) | apply And.intro)) (by repeat' (first | exact trivial | assumption | exact flat_no _ | exact (fun _ h => nomatch h) | apply And.intro)) fun S q pc hS hq hC hE => ?_
  conv => whnf
  repeat ((first
   |refine ko_sT c1 ?_
   |refine ko_rF c1 ?_
   |refine plan_as (pick_f c1) ?_
   |refine bool_false c1 ?_
   |refine ko_sT c4 ?_
   |refine ko_rF c4 ?_
   |refine plan_as (pick_f c4) ?_
   |refine bool_false c4 ?_
   |refine ko_sT c5 ?_
   |refine ko_rF c5 ?_
   |refine plan_as (pick_f c5) ?_
   |refine bool_false c5 ?_
   |refine ko_sT c8 ?_
   |refine ko_rF c8 ?_
   |refine plan_as (pick_f c8) ?_
   |refine bool_false c8 ?_
   |refine sym_pure hC (pCal) ?_
   |refine sym_pure hC (pMoon) ?_
   |refine sym_pure hC (pFts) ?_
   |refine sym_pure hC (pYear) ?_
   |refine sym_pure hC (pTr) ?_
   |refine sym_pure hC (pF) ?_
   |refine sym_pure hC (pL) ?_
   |refine sym_pure hC (pN) ?_
   |refine sym_pure hC (hk) ?_
   |refine sym_drawn hS (by kernel_rfl) ?_);conv => whnf)
  exact ⟨_,rfl,Wk.refl _⟩
 obtain ⟨fn,fd,rfl,rfl,q1,q2,q3⟩ :=isF_nat hF
 obtain ⟨m,rfl,q4⟩ :=int_nat hM
 obtain ⟨u,rfl,q5⟩ :=int_nat hU
 obtain ⟨y,rfl,q6⟩ :=int_nat hy
 exact topFeasts_yes hk hcal hm hl h1 y (by omega) tv2 fn fd m q1 ⟨q2,q3⟩ (by omega) u (by omega)
end
end Go.Abs.Seat
