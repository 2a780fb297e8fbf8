/-
  Pieces as defined, as the document tells it.
-/
import Derived.Test.YtcnidgafdonioaaGreatVU10
namespace Go.Abs.Seat
noncomputable section
open Go Go.Abs Go.Proofs.Tryz
set_option maxRecDepth 100000
set_option maxHeartbeats 40000000
attribute [local irreducible] IntKind.wrap pEq
theorem rPair9_pure (a b:Int):Pure prog 88 [.agg [iv a,iv b]] (.bool (decide (tth a ∧ tth b))) :=by
 by_cases h:tth a
 ·have c1:decide (tth a) = true :=decide_eq_true h
  refine pure_sym hE rfl (by repeat' (first | exact trivial | assumption | exact flat_no _ | exact (fun _ h => nomatch h) | apply And.intro)) (by repeat' (first | exact trivial | assumption | exact flat_no _ | exact (fun _ h => nomatch h) | apply And.intro)) fun S q pc hS hq hC hE => ?_
  conv => whnf
  repeat ((first
   |refine ko_rT c1 ?_
   |refine ko_sF c1 ?_
   |refine plan_as (pick_t c1) ?_
   |refine bool_true c1 ?_
   |refine sym_pure hC (rTeeth_pure a) ?_
   |refine sym_pure hC (rTeeth_pure b) ?_
   |refine sym_drawn hS (by kernel_rfl) ?_);conv => whnf)
  exact ⟨_,rfl,wkb (by simp [h])⟩
 ·have c1:decide (tth a) = false :=decide_eq_false h
  refine pure_sym hE rfl (by repeat' (first | exact trivial | assumption | exact flat_no _ | exact (fun _ h => nomatch h) | apply And.intro)) (by repeat' (first | exact trivial | assumption | exact flat_no _ | exact (fun _ h => nomatch h) | apply And.intro)) fun S q pc hS hq hC hE => ?_
  conv => whnf
  repeat ((first
   |refine ko_sT c1 ?_
   |refine ko_rF c1 ?_
   |refine plan_as (pick_f c1) ?_
   |refine bool_false c1 ?_
   |refine sym_pure hC (rTeeth_pure a) ?_
   |refine sym_drawn hS (by kernel_rfl) ?_);conv => whnf)
  exact ⟨_,rfl,wkb (by simp [h])⟩
theorem rArbor_pure (L:List LkI) (M:List Int) (n:Int):Pure prog 6 [.agg [lkA L,nl M],iv n] (.bool (decide (1 ≤ n ∧ n ≤ (L.length:Int)))) :=by
 have lL :=lkA_no L
 have lLs :=lks_no L
 have lM :=ivs_no M
 refine pure_sym hE rfl (by repeat' (first | exact trivial | assumption | exact flat_no _ | exact (fun _ h => nomatch h) | apply And.intro)) (by repeat' (first | exact trivial | assumption | exact flat_no _ | exact (fun _ h => nomatch h) | apply And.intro)) fun S q pc hS hq hC hE => ?_
 conv => whnf
 refine sym_pure hC (in9_pure n 1 L.length) ?_
 conv => whnf
 exact ⟨_,rfl,Wk.refl _⟩
theorem rPiece_no {x h:AV} {L:List LkI} {M:List Int} (hx:LL x L) (hh:IL h M) (hn:¬ ((1 ≤ L.length ∧ L.length ≤ 5) ∧ (1 ≤ M.length ∧ M.length ≤ 4))) :
  Pure prog 35 [.agg [x,h]] (.bool false) :=by
 have lx :=hx.no
 have lh :=hh.no
 by_cases h1:1 ≤ L.length ∧ L.length ≤ 5
 ·have h2:¬ (1 ≤ M.length ∧ M.length ≤ 4) :=fun k => hn ⟨h1,k⟩
  have c1:(!decide (1 ≤ (L.length:Int) ∧ (L.length:Int) ≤ 5)) = false :=nt_t (decide_eq_true (by omega))
  rcases hx with ⟨_,rfl⟩ | rfl
  ·exact absurd h1.1 (by decide)
  rcases hh with ⟨rfl,rfl⟩ | rfl
  ·refine pure_sym hE rfl (by repeat' (first | exact trivial | assumption | exact flat_no _ | exact (fun _ h => nomatch h) | apply And.intro)) (by repeat' (first | exact trivial | assumption | exact flat_no _ | exact (fun _ h => nomatch h) | apply And.intro)) fun S q pc hS hq hC hE => ?_
   conv => whnf
   repeat ((first
    |refine ko_sT c1 ?_
    |refine ko_rF c1 ?_
    |refine plan_as (pick_f c1) ?_
    |refine bool_false c1 ?_
    |refine sym_pure hC (in9_pure L.length 1 5) ?_
    |refine sym_pure hC (in9_pure 0 1 4) ?_
    |refine sym_drawn hS (by kernel_rfl) ?_);conv => whnf)
   exact ⟨_,rfl,Wk.refl _⟩
  ·have c2:(!decide (1 ≤ (M.length:Int) ∧ (M.length:Int) ≤ 4)) = true :=nt_f (decide_eq_false (by omega))
   refine pure_sym hE rfl (by repeat' (first | exact trivial | assumption | exact flat_no _ | exact (fun _ h => nomatch h) | apply And.intro)) (by repeat' (first | exact trivial | assumption | exact flat_no _ | exact (fun _ h => nomatch h) | apply And.intro)) fun S q pc hS hq hC hE => ?_
   conv => whnf
   repeat ((first
    |refine ko_sT c1 ?_
    |refine ko_rF c1 ?_
    |refine plan_as (pick_f c1) ?_
    |refine bool_false c1 ?_
    |refine ko_rT c2 ?_
    |refine ko_sF c2 ?_
    |refine plan_as (pick_t c2) ?_
    |refine bool_true c2 ?_
    |refine sym_pure hC (in9_pure L.length 1 5) ?_
    |refine sym_pure hC (in9_pure M.length 1 4) ?_
    |refine sym_drawn hS (by kernel_rfl) ?_);conv => whnf)
   exact ⟨_,rfl,Wk.refl _⟩
 ·rcases hx with ⟨rfl,rfl⟩ | rfl
  ·rcases hh with ⟨rfl,rfl⟩ | rfl
   all_goals
    refine pure_sym hE rfl (by repeat' (first | exact trivial | assumption | exact flat_no _ | exact (fun _ h => nomatch h) | apply And.intro)) (by repeat' (first | exact trivial | assumption | exact flat_no _ | exact (fun _ h => nomatch h) | apply And.intro)) fun S q pc hS hq hC hE => ?_
    conv => whnf
    repeat ((first
     |refine ko_rT h1 ?_
     |refine ko_sF h1 ?_
     |refine plan_as (pick_t h1) ?_
     |refine bool_true h1 ?_
     |refine ko_sT h1 ?_
     |refine ko_rF h1 ?_
     |refine plan_as (pick_f h1) ?_
     |refine bool_false h1 ?_
     |refine sym_pure hC (in9_pure 0 1 5) ?_
     |refine sym_drawn hS (by kernel_rfl) ?_);conv => whnf)
    exact ⟨_,rfl,Wk.refl _⟩
  ·have c1:(!decide (1 ≤ (L.length:Int) ∧ (L.length:Int) ≤ 5)) = true :=nt_f (decide_eq_false (by omega))
   rcases hh with ⟨rfl,rfl⟩ | rfl
   all_goals
    refine pure_sym hE rfl (by repeat' (first | exact trivial | assumption | exact flat_no _ | exact (fun _ h => nomatch h) | apply And.intro)) (by repeat' (first | exact trivial | assumption | exact flat_no _ | exact (fun _ h => nomatch h) | apply And.intro)) fun S q pc hS hq hC hE => ?_
    conv => whnf
    repeat ((first
     |refine ko_rT c1 ?_
     |refine ko_sF c1 ?_
     |refine plan_as (pick_t c1) ?_
     |refine bool_true c1 ?_
     |refine sym_pure hC (in9_pure L.length 1 5) ?_
     |refine sym_drawn hS (by kernel_rfl) ?_);conv => whnf)
    exact ⟨_,rfl,Wk.refl _⟩
theorem rPiece_yes (L:List LkI) (M:List Int) (h1:1 ≤ L.length ∧ L.length ≤ 5) (h2:1 ≤ M.length ∧ M.length ≤ 4):Pure prog 35 [.agg [lkA L,nl M]] (.bool (decide (pcOk L M))) :=by
 have lL :=lkA_no L
 have lM :=ivs_no M
 have lLs :=lks_no L
 have c1:(!decide (1 ≤ (L.length:Int) ∧ (L.length:Int) ≤ 5)) = false :=nt_t (decide_eq_true (by omega))
 have c2:(!decide (1 ≤ (M.length:Int) ∧ (M.length:Int) ≤ 4)) = false :=nt_t (decide_eq_true (by omega))
 refine pure_sym hE rfl (by repeat' (first | exact trivial | assumption | exact flat_no _ | exact (fun _ h => nomatch h) | apply And.intro)) (by repeat' (first | exact trivial | assumption | exact flat_no _ | exact (fun _ h => nomatch h) | apply And.intro)) fun S q pc hS hq hC hE => ?_
 conv => whnf
 repeat ((first
  |refine ko_sT c1 ?_
  |refine ko_rF c1 ?_
  |refine plan_as (pick_f c1) ?_
  |refine bool_false c1 ?_
  |refine ko_sT c2 ?_
  |refine ko_rF c2 ?_
  |refine plan_as (pick_f c2) ?_
  |refine bool_false c2 ?_
  |refine sym_pure hC (in9_pure L.length 1 5) ?_
  |refine sym_pure hC (in9_pure M.length 1 4) ?_
  |refine sym_drawn hS (by kernel_rfl) ?_);conv => whnf)
 refine sym_loop hE hS (A :=List Lk) [1] (fun N => [(3,nv N.length)]) (fun _ => []) (fun N => N.length ≤ L.length ∧ cL N = L.take N.length ∧ okN N) (fun N => L.length - N.length) [] rfl rfl (by refine ⟨rfl,rfl,rfl,rfl,?_,?_⟩ <;> repeat' (first | exact trivial | exact rfl | exact Nat.zero_le _ | exact bz lL | exact bz lM | exact Nat.le_of_ble_eq_true rfl | exact bdl_no (by assumption) | exact bdl_no (flat_no _) | exact bdl_no (ivs_no _) | exact Nat.max_le.2 ⟨Nat.le_of_ble_eq_true rfl,bdl_no (ivs_no _)⟩ | apply And.intro)) ⟨Nat.zero_le _,rfl,⟨fun _ h => absurd h (Nat.not_lt_zero _),fun _ h => absurd h (Nat.not_lt_zero _),fun _ h => absurd h (Nat.not_lt_zero _),fun _ h => absurd h (Nat.not_lt_zero _)⟩⟩ ?_
 rintro N ⟨hl,he,hN⟩
 conv => whnf
 by_cases hi:N.length < L.length
 ·refine bool_true (ltN_t hi) ?_
  conv => whnf
  refine bool_true (inR_t hi) ?_
  conv => whnf
  have h0 :=nth_lks L N.length hi
  have ht :=tak_lk2 L hi
  have hno:¬ lkAt N (gL L N.length) → decide (pcOk L M) = false :=fun k => decide_eq_false fun z => lkAt.not hi he.symm k z.2.1
  have htk :=take_gL L hi
  unfold lkAt at hno
  revert h0 ht hno htk
  generalize gL L N.length = y
  obtain ⟨a,b,c⟩ :=y
  intro h0 ht hno htk
  have h0:nth (lks L) (N.length * 3 + 0) = some (iv a) :=h0
  refine plan_as (nthP h0) ?_
  conv => whnf
  by_cases q1:0 ≤ a ∧ a ≤ (N.length:Int)
  ·have d1:(!decide (0 ≤ a ∧ a ≤ Int.ofNat N.length)) = false :=nt_t (decide_eq_true q1)
   obtain ⟨f,rfl⟩ : ∃ f:Nat,a = Int.ofNat f :=⟨a.toNat,(Int.toNat_of_nonneg q1.1).symm⟩
   have hf:f ≤ N.length :=Int.ofNat_le.1 q1.2
   by_cases q2:tth b ∧ tth c
   ·have d2:(!decide (tth b ∧ tth c)) = false :=nt_t (decide_eq_true q2)
    obtain ⟨b,rfl⟩ : ∃ f:Nat,b = Int.ofNat f :=⟨b.toNat,(Int.toNat_of_nonneg (Int.le_trans (by decide) q2.1.1)).symm⟩
    obtain ⟨c,rfl⟩ : ∃ f:Nat,c = Int.ofNat f :=⟨c.toNat,(Int.toNat_of_nonneg (Int.le_trans (by decide) q2.2.1)).symm⟩
    have hM:cL (N ++ [(f,b,c)]) = L.take (N.length + 1) :=by rw [cL_app,htk,he];rfl
    have hlen:(N ++ [(f,b,c)]).length = N.length + 1 :=by rw [List.length_append];rfl
    have hT :=rTr_pure (L :=L) (M :=M) (N :=N ++ [(f,b,c)]) (by rw [hlen];exact hM) (by omega) (by omega) (wfN_app hN.wf (x :=(f,b,c)) hf) (N.length + 1) (N.length + 1) (Nat.le_refl _) (by omega)
    rw [tr_app_last hN.wf (x :=(f,b,c)) hf,tvA_app] at hT
    have hw:IntKind.i64.wrap (Int.ofNat N.length + 1) = Int.ofNat (N.length + 1) :=wrapN (m :=N.length + 1) (by omega)
    have lT :=flat_no (zp (tr N f ++ [(b,c)]))
    have zT:(zp (tr N f ++ [(b,c)])).length = (tr N f).length + 1 :=by rw [zp_len,List.length_append];rfl
    have hT:Pure prog 89 [.agg [lkA L,nl M],iv (IntKind.i64.wrap (Int.ofNat N.length + 1))] (pv (zp (tr N f ++ [(b,c)]))) :=by rw [hw];exact hT
    by_cases q3:(tr N f).length ≤ 2
    ·have d3:decide (((zp (tr N f ++ [(b,c)])).length:Int) > 3) = false :=decide_eq_false (by rw [zT];omega)
     repeat ((first
      |refine plan_as (takP ht) ?_
      |refine ko_sT d1 ?_
      |refine ko_rF d1 ?_
      |refine plan_as (pick_f d1) ?_
      |refine bool_false d1 ?_
      |refine ko_sT d2 ?_
      |refine ko_rF d2 ?_
      |refine plan_as (pick_f d2) ?_
      |refine bool_false d2 ?_
      |refine ko_sT d3 ?_
      |refine ko_rF d3 ?_
      |refine plan_as (pick_f d3) ?_
      |refine bool_false d3 ?_
      |refine ko_rT (inR_t hi) ?_
      |refine ko_sF (inR_t hi) ?_
      |refine plan_as (pick_t (inR_t hi)) ?_
      |refine bool_true (inR_t hi) ?_
      |refine ko_rT (gff d1) ?_
      |refine ko_sF (gff d1) ?_
      |refine plan_as (pick_t (gff d1)) ?_
      |refine bool_true (gff d1) ?_
      |refine ko_rT (gff d2) ?_
      |refine ko_sF (gff d2) ?_
      |refine plan_as (pick_t (gff d2)) ?_
      |refine bool_true (gff d2) ?_
      |refine sym_pure hC (in9_pure (Int.ofNat f) 0 (Int.ofNat N.length)) ?_
      |refine sym_pure hC (rPair9_pure (Int.ofNat b) (Int.ofNat c)) ?_
      |refine sym_pure hC (hT) ?_
      |refine sym_drawn hS (by kernel_rfl) ?_);conv => whnf)
     obtain ⟨M2,e1,k1,e2⟩ :=lkAt.next hN (x :=(Int.ofNat f,Int.ofNat b,Int.ofNat c)) ⟨q1,q2,q3⟩
     have hw2:IntKind.i64.wrap (Int.ofNat N.length + 1) = Int.ofNat M2.length :=by rw [e2];exact hw
     exact ⟨M2,⟨by omega,by rw [e1,e2,htk,he],k1⟩,by omega,(by refine ⟨rfl,rfl,rfl,rfl,?_,?_⟩ <;> repeat' (first | exact trivial | exact rfl | exact Nat.zero_le _ | exact congrArg (fun z => some (AV.int .i64 z)) hw2 | exact bz lL | exact bz lM | exact Nat.le_of_ble_eq_true rfl | exact bdl_no (by assumption) | exact bdl_no (flat_no _) | exact bdl_no (ivs_no _) | exact Nat.max_le.2 ⟨Nat.le_of_ble_eq_true rfl,bdl_no (ivs_no _)⟩ | apply And.intro))⟩
    ·have d3:decide (((zp (tr N f ++ [(b,c)])).length:Int) > 3) = true :=decide_eq_true (by rw [zT];omega)
     rw [hno fun k => q3 k.2.2]
     repeat ((first
      |refine plan_as (takP ht) ?_
      |refine ko_sT d1 ?_
      |refine ko_rF d1 ?_
      |refine plan_as (pick_f d1) ?_
      |refine bool_false d1 ?_
      |refine ko_sT d2 ?_
      |refine ko_rF d2 ?_
      |refine plan_as (pick_f d2) ?_
      |refine bool_false d2 ?_
      |refine ko_rT d3 ?_
      |refine ko_sF d3 ?_
      |refine plan_as (pick_t d3) ?_
      |refine bool_true d3 ?_
      |refine ko_rT (inR_t hi) ?_
      |refine ko_sF (inR_t hi) ?_
      |refine plan_as (pick_t (inR_t hi)) ?_
      |refine bool_true (inR_t hi) ?_
      |refine ko_rT (gff d1) ?_
      |refine ko_sF (gff d1) ?_
      |refine plan_as (pick_t (gff d1)) ?_
      |refine bool_true (gff d1) ?_
      |refine ko_rT (gff d2) ?_
      |refine ko_sF (gff d2) ?_
      |refine plan_as (pick_t (gff d2)) ?_
      |refine bool_true (gff d2) ?_
      |refine sym_pure hC (in9_pure (Int.ofNat f) 0 (Int.ofNat N.length)) ?_
      |refine sym_pure hC (rPair9_pure (Int.ofNat b) (Int.ofNat c)) ?_
      |refine sym_pure hC (hT) ?_
      |refine sym_drawn hS (by kernel_rfl) ?_);conv => whnf)
     exact ⟨_,rfl,Wk.refl _⟩
   ·have d2:(!decide (tth b ∧ tth c)) = true :=nt_f (decide_eq_false q2)
    rw [hno fun k => q2 k.2.1]
    repeat ((first
     |refine plan_as (takP ht) ?_
     |refine ko_sT d1 ?_
     |refine ko_rF d1 ?_
     |refine plan_as (pick_f d1) ?_
     |refine bool_false d1 ?_
     |refine ko_rT d2 ?_
     |refine ko_sF d2 ?_
     |refine plan_as (pick_t d2) ?_
     |refine bool_true d2 ?_
     |refine ko_rT (inR_t hi) ?_
     |refine ko_sF (inR_t hi) ?_
     |refine plan_as (pick_t (inR_t hi)) ?_
     |refine bool_true (inR_t hi) ?_
     |refine ko_rT (gff d1) ?_
     |refine ko_sF (gff d1) ?_
     |refine plan_as (pick_t (gff d1)) ?_
     |refine bool_true (gff d1) ?_
     |refine ko_sT (gft d2) ?_
     |refine ko_rF (gft d2) ?_
     |refine plan_as (pick_f (gft d2)) ?_
     |refine bool_false (gft d2) ?_
     |refine sym_pure hC (in9_pure (Int.ofNat f) 0 (Int.ofNat N.length)) ?_
     |refine sym_pure hC (rPair9_pure b c) ?_
     |refine sym_drawn hS (by kernel_rfl) ?_);conv => whnf)
    exact ⟨_,rfl,Wk.refl _⟩
  ·have d1:(!decide (0 ≤ a ∧ a ≤ Int.ofNat N.length)) = true :=nt_f (decide_eq_false q1)
   rw [hno fun k => q1 k.1]
   repeat ((first
    |refine plan_as (takP ht) ?_
    |refine ko_rT d1 ?_
    |refine ko_sF d1 ?_
    |refine plan_as (pick_t d1) ?_
    |refine bool_true d1 ?_
    |refine ko_sT (gft d1) ?_
    |refine ko_rF (gft d1) ?_
    |refine plan_as (pick_f (gft d1)) ?_
    |refine bool_false (gft d1) ?_
    |refine sym_pure hC (in9_pure a 0 (Int.ofNat N.length)) ?_
    |refine sym_drawn hS (by kernel_rfl) ?_);conv => whnf)
   exact ⟨_,rfl,Wk.refl _⟩
 ·refine bool_false (ltN_f hi) ?_
  conv => whnf
  have e:N.length = L.length :=by omega
  rw [List.take_of_length_le (by omega)] at he
  have hp:decide (pcOk L M) = decide (hdsOk L.length M) :=decide_eq_decide.2 ⟨fun z => z.2.2,fun z => ⟨⟨h1,h2⟩,⟨N,he.symm,hN⟩,z⟩⟩
  rw [hp]
  refine sym_loop hE hS (A :=Nat) [1] (fun i => [(4,nv i)]) (fun _ => []) (fun i => i ≤ M.length ∧ ∀ j,j < i → 1 ≤ gi M j ∧ gi M j ≤ (L.length:Int)) (fun i => M.length - i) 0 rfl rfl (by refine ⟨rfl,rfl,rfl,rfl,?_,?_⟩ <;> repeat' (first | exact trivial | exact rfl | exact Nat.zero_le _ | exact bz lL | exact bz lM | exact Nat.le_of_ble_eq_true rfl | exact bdl_no (by assumption) | exact bdl_no (flat_no _) | exact bdl_no (ivs_no _) | exact Nat.max_le.2 ⟨Nat.le_of_ble_eq_true rfl,bdl_no (ivs_no _)⟩ | apply And.intro)) ⟨Nat.zero_le _,fun _ h => absurd h (Nat.not_lt_zero _)⟩ ?_
  intro i ⟨hi1,hj⟩
  conv => whnf
  by_cases hi2:i < M.length
  ·refine bool_true (ltN_t hi2) ?_
   conv => whnf
   refine bool_true (inR_t (i :=i) (n :=M.length) hi2) ?_
   conv => whnf
   refine plan_as (nthP (nth_ivs1 (l :=M) (i :=i) hi2)) ?_
   conv => whnf
   refine sym_pure hC (rArbor_pure L M (gi M i)) ?_
   conv => whnf
   refine sym_drawn hS (by kernel_rfl) ?_
   conv => whnf
   by_cases q:1 ≤ gi M i ∧ gi M i ≤ (L.length:Int)
   ·refine bool_false (nt_t (decide_eq_true q)) ?_
    conv => whnf
    exact ⟨i + 1,⟨hi2,fun j h => by
     by_cases e:j = i
     ·subst e;exact q
     ·exact hj j (by omega)⟩,by omega,(by refine ⟨rfl,rfl,rfl,rfl,?_,?_⟩ <;> repeat' (first | exact trivial | exact rfl | exact Nat.zero_le _ | exact congrArg (fun z => some (AV.int .i64 z)) (show IntKind.i64.wrap (Int.ofNat i + 1) = Int.ofNat (i + 1) from wrapN (m :=i + 1) (by omega)) | exact bz lL | exact bz lM | exact Nat.le_of_ble_eq_true rfl | exact bdl_no (by assumption) | exact bdl_no (flat_no _) | exact bdl_no (ivs_no _) | exact Nat.max_le.2 ⟨Nat.le_of_ble_eq_true rfl,bdl_no (ivs_no _)⟩ | apply And.intro))⟩
   ·refine bool_true (nt_f (decide_eq_false q)) ?_
    conv => whnf
    rw [decide_eq_false (show ¬ hdsOk L.length M from fun z => q (z i hi2))]
    exact ⟨_,rfl,Wk.refl _⟩
  ·refine bool_false (ltN_f hi2) ?_
   conv => whnf
   rw [decide_eq_true (show hdsOk L.length M from fun j h => hj j (by omega))]
   exact ⟨_,rfl,Wk.refl _⟩
end
end Go.Abs.Seat
