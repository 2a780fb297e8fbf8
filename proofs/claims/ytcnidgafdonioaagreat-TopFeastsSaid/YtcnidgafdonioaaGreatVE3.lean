/-
  Calendars and feasts as defined.
-/
import Derived.Test.YtcnidgafdonioaaGreatVE2
import Derived.Test.YtcnidgafdonioaaGreatVU9
namespace Go.Abs.Seat
noncomputable section
open Go Go.Abs Go.Proofs.Tryz
set_option maxRecDepth 100000
set_option maxHeartbeats 40000000
attribute [local irreducible] IntKind.wrap pEq
theorem isCalendar_pure {E:Int} {C:List Int} (h:calOk E C):Pure prog 62 [.agg [iv E,nl C]] (.bool true) :=by
 obtain ⟨hEp,hl,hc⟩ :=h
 have lC :=ivs_no C
 have pE :=din_pure E 0 1000
 rw [decide_eq_true hEp] at pE
 have pL :=din_pure (C.length:Int) 1 3
 rw [decide_eq_true (show (1:Int) ≤ C.length ∧ (C.length:Int) ≤ 3 by omega)] at pL
 refine pure_sym hE rfl (by repeat' (first | exact trivial | assumption | exact flat_no _ | exact (fun _ h => nomatch h) | apply And.intro)) (by repeat' (first | exact trivial | assumption | exact flat_no _ | exact (fun _ h => nomatch h) | apply And.intro)) fun S q pc hS hq hC hE => ?_
 conv => whnf
 refine sym_pure hC (pE) ?_
 conv => whnf
 refine sym_pure hC (pL) ?_
 conv => whnf
 refine sym_loop hE hS (A :=Nat × Int) [18,19] (fun (i,z) => [(3,iv z),(20,nv i)]) (fun _ => []) (fun (i,z) => i ≤ C.length ∧ (i = 0 ∧ z = 1 ∨ 0 < i ∧ z = gi C (i - 1))) (fun (i,_) => C.length - i) (0,1) rfl rfl (by refine ⟨rfl,rfl,rfl,rfl,?_,?_⟩ <;> repeat' (first | exact trivial | exact rfl | exact Nat.zero_le _ | exact Nat.le_of_ble_eq_true rfl | exact bdl_no (by assumption) | exact bdl_no (flat_no _) | exact bdl_no (ivs_no _) | exact Nat.max_le.2 ⟨Nat.le_of_ble_eq_true rfl,bdl_no (ivs_no _)⟩ | apply And.intro)) ⟨Nat.zero_le _,.inl ⟨rfl,rfl⟩⟩ ?_
 rintro ⟨i,z⟩ ⟨hi,hz⟩
 conv => whnf
 by_cases h:i < C.length
 ·rw [show decide (Int.ofNat i < ↑C.length) = true from ltN_t h]
  conv => whnf
  refine bool_true (inR_t (i :=i) (n :=C.length) h) ?_
  conv => whnf
  refine plan_as (nthP (nth_ivs1 (l :=C) (i :=i) h)) ?_
  conv => whnf
  have hx :=hc i h
  have hz2:1 ≤ z ∧ z < gi C i :=by
   rcases hz with ⟨rfl,rfl⟩ | ⟨h0,rfl⟩
   ·omega
   ·have :=hx.2 h0;have :=(hc (i - 1) (by omega)).1;omega
  rw [show IntKind.i64.wrap (z + 1) = z + 1 from wrapI (by omega) (by omega)]
  have pI :=din_pure (gi C i) (z + 1) 1000
  rw [decide_eq_true (show z + 1 ≤ gi C i ∧ gi C i ≤ 1000 by omega)] at pI
  refine sym_pure hC (pI) ?_
  conv => whnf
  have hw:IntKind.i64.wrap (Int.ofNat i + 1) = Int.ofNat (i + 1) :=wrapN (m :=i + 1) (by omega)
  exact ⟨(i + 1,gi C i),⟨h,.inr ⟨by omega,rfl⟩⟩,by show C.length - (i + 1) < C.length - i;omega,(by refine ⟨rfl,rfl,rfl,rfl,?_,?_⟩ <;> repeat' (first | exact trivial | exact rfl | exact Nat.zero_le _ | exact congrArg (fun z => some (AV.int .i64 z)) hw | exact Nat.le_of_ble_eq_true rfl | exact bdl_no (by assumption) | exact bdl_no (flat_no _) | exact bdl_no (ivs_no _) | exact Nat.max_le.2 ⟨Nat.le_of_ble_eq_true rfl,bdl_no (ivs_no _)⟩ | apply And.intro))⟩
 ·rw [show decide (Int.ofNat i < ↑C.length) = false from ltN_f h]
  conv => whnf
  exact ⟨_,rfl,Wk.refl _⟩
theorem rCalendar_pure (E:Int) (C:List Int) (h3:C.length ≤ 3):Pure prog 20 [.agg [iv E,nl C]] (.bool (decide (calOk E C))) :=by
 obtain ⟨B,hB⟩ : ∃ B,decide (calOk E C) = B :=⟨_,rfl⟩
 rw [hB]
 have lC :=ivs_no C
 have pE :=in6_pure E 0 1000
 have pL :=in6_pure (C.length:Int) 1 3
 refine pure_sym hE rfl (by repeat' (first | exact trivial | assumption | exact flat_no _ | exact (fun _ h => nomatch h) | apply And.intro)) (by repeat' (first | exact trivial | assumption | exact flat_no _ | exact (fun _ h => nomatch h) | apply And.intro)) fun S q pc hS hq hC hE => ?_
 conv => whnf
 refine sym_loop hE hS (A :=Nat) [1] (fun i => [(3,nv i)]) (fun _ => []) (fun i => i ≤ C.length ∧ ∀ j,j < i → (2 ≤ gi C j ∧ gi C j ≤ 1000) ∧ (0 < j → gi C (j - 1) < gi C j)) (fun i => C.length - i) 0 rfl rfl (by refine ⟨rfl,rfl,rfl,rfl,?_,?_⟩ <;> repeat' (first | exact trivial | exact rfl | exact Nat.zero_le _ | exact Nat.le_of_ble_eq_true rfl | exact bdl_no (by assumption) | exact bdl_no (flat_no _) | exact bdl_no (ivs_no _) | exact Nat.max_le.2 ⟨Nat.le_of_ble_eq_true rfl,bdl_no (ivs_no _)⟩ | apply And.intro)) ⟨Nat.zero_le _,fun j h => absurd h (Nat.not_lt_zero _)⟩ ?_
 intro i ⟨hi,hj⟩
 conv => whnf
 by_cases h:i < C.length
 ·rw [show decide (Int.ofNat i < ↑C.length) = true from ltN_t h]
  conv => whnf
  refine bool_true (inR_t (i :=i) (n :=C.length) h) ?_
  conv => whnf
  refine plan_as (nthP (nth_ivs1 (l :=C) (i :=i) h)) ?_
  conv => whnf
  refine sym_pure hC (in6_pure (gi C i) 2 1000) ?_
  conv => whnf
  by_cases h1:2 ≤ gi C i ∧ gi C i ≤ 1000
  ·rw [decide_eq_true h1]
   conv => whnf
   cases i with
   |zero =>
    conv => whnf
    refine sym_drawn hS (by kernel_rfl) ?_
    conv => whnf
    rw [show IntKind.i64.wrap (Int.ofNat 0 + 1) = 1 from wrapI (by decide) (by decide)]
    conv => whnf
    exact ⟨1,⟨h,upto hj ⟨h1,fun k => absurd k (Nat.lt_irrefl _)⟩⟩,by omega,(by refine ⟨rfl,rfl,rfl,rfl,?_,?_⟩ <;> repeat' (first | exact trivial | exact rfl | exact Nat.zero_le _ | exact Nat.le_of_ble_eq_true rfl | exact bdl_no (by assumption) | exact bdl_no (flat_no _) | exact bdl_no (ivs_no _) | exact Nat.max_le.2 ⟨Nat.le_of_ble_eq_true rfl,bdl_no (ivs_no _)⟩ | apply And.intro))⟩
   |succ i =>
    conv => whnf
    rw [show decide (Int.ofNat (i + 1) > 0) = true from (pos0 _).2 (by omega)]
    conv => whnf
    refine bool_true (inR_t (i :=(i+1)) (n :=C.length) h) ?_
    conv => whnf
    refine plan_as (nthP (nth_ivs1 (l :=C) (i :=(i+1)) h)) ?_
    conv => whnf
    rw [show IntKind.i64.wrap (Int.ofNat (i + 1) - 1) = Int.ofNat i from wrapSub1 (m :=i + 1) (by omega) (by omega)]
    conv => whnf
    have h':i < C.length :=by omega
    refine bool_true (inR_t (i :=i) (n :=C.length) h') ?_
    conv => whnf
    refine plan_as (nthP (nth_ivs1 (l :=C) (i :=i) h')) ?_
    conv => whnf
    refine sym_drawn hS (by kernel_rfl) ?_
    conv => whnf
    by_cases h2:gi C (i + 1) ≤ gi C i
    ·rw [show decide (gi C (i + 1) ≤ gi C i) = true from decide_eq_true h2]
     conv => whnf
     rw [show B = false from hB.symm.trans (decide_eq_false fun k => by have :=(k.2.2 (i + 1) h).2 (by omega);simp only [Nat.add_sub_cancel] at this;omega)]
     exact ⟨_,rfl,Wk.refl _⟩
    ·rw [show decide (gi C (i + 1) ≤ gi C i) = false from decide_eq_false h2]
     conv => whnf
     rw [show IntKind.i64.wrap (Int.ofNat (i + 1) + 1) = Int.ofNat (i + 2) from wrapN (m :=i + 2) (by omega)]
     exact ⟨i + 2,⟨h,upto hj ⟨h1,fun _ => by simp only [Nat.add_sub_cancel];omega⟩⟩,by omega,(by refine ⟨rfl,rfl,rfl,rfl,?_,?_⟩ <;> repeat' (first | exact trivial | exact rfl | exact Nat.zero_le _ | exact Nat.le_of_ble_eq_true rfl | exact bdl_no (by assumption) | exact bdl_no (flat_no _) | exact bdl_no (ivs_no _) | exact Nat.max_le.2 ⟨Nat.le_of_ble_eq_true rfl,bdl_no (ivs_no _)⟩ | apply And.intro))⟩
  ·rw [decide_eq_false h1]
   conv => whnf
   refine sym_drawn hS (by kernel_rfl) ?_
   conv => whnf
   rw [show B = false from hB.symm.trans (decide_eq_false fun k => h1 (k.2.2 i h).1)]
   exact ⟨_,rfl,Wk.refl _⟩
 ·rw [show decide (Int.ofNat i < ↑C.length) = false from ltN_f h]
  conv => whnf
  have hi:i = C.length :=by omega
  subst hi
  refine sym_pure hC (pE) ?_
  conv => whnf
  by_cases h1:0 ≤ E ∧ E ≤ 1000
  ·rw [decide_eq_true h1]
   conv => whnf
   refine sym_pure hC (pL) ?_
   conv => whnf
   refine ⟨_,rfl,wkb (.trans (decide_eq_decide.2 ⟨fun k => ⟨h1,by omega,hj⟩,fun k => ?_⟩) hB)⟩
   have :=k.2.1
   omega
  ·rw [decide_eq_false h1]
   conv => whnf
   rw [show B = false from hB.symm.trans (decide_eq_false fun k => h1 k.1)]
   exact ⟨_,rfl,Wk.refl _⟩
theorem rCalendar_nil (E:Int):Pure prog 20 [.agg [iv E,.nils]] (.bool false) :=by
 have pE :=in6_pure E 0 1000
 have pL :=in6_pure 0 1 3
 by_cases h1:0 ≤ E ∧ E ≤ 1000
 ·rw [decide_eq_true h1] at pE
  refine pure_sym hE rfl (by repeat' (first | exact trivial | assumption | exact flat_no _ | exact (fun _ h => nomatch h) | apply And.intro)) (by repeat' (first | exact trivial | assumption | exact flat_no _ | exact (fun _ h => nomatch h) | apply And.intro)) fun S q pc hS hq hC hE => ?_
  conv => whnf
  refine sym_unroll hE hS ?_
  conv => whnf
  refine sym_pure hC (pE) ?_
  conv => whnf
  refine sym_pure hC (pL) ?_
  conv => whnf
  exact ⟨_,rfl,Wk.refl _⟩
 ·rw [decide_eq_false h1] at pE
  refine pure_sym hE rfl (by repeat' (first | exact trivial | assumption | exact flat_no _ | exact (fun _ h => nomatch h) | apply And.intro)) (by repeat' (first | exact trivial | assumption | exact flat_no _ | exact (fun _ h => nomatch h) | apply And.intro)) fun S q pc hS hq hC hE => ?_
  conv => whnf
  refine sym_unroll hE hS ?_
  conv => whnf
  refine sym_pure hC (pE) ?_
  conv => whnf
  exact ⟨_,rfl,Wk.refl _⟩
abbrev ftV (f:Ft):AV :=.agg [.bool f.1,iv f.2.1,iv f.2.2.1,iv f.2.2.2]
def fts:List Ft → List AV
 | [] => []
 |f :: r => .bool f.1 :: iv f.2.1 :: iv f.2.2.1 :: iv f.2.2.2 :: fts r
abbrev ftL (l:List Ft):AV :=.lst (fts l) l.length .no
theorem fts_no:∀ l,Lives noL (fts l)
 | [] => trivial
 | _ :: r => ⟨trivial,trivial,trivial,trivial,fts_no r⟩
theorem tak_ft:∀ (l:List Ft) {i:Nat},i < l.length → takeN 4 (dropN (i * 4) (fts l)) = some [.bool (gf l i).1,iv (gf l i).2.1,iv (gf l i).2.2.1,iv (gf l i).2.2.2]
 |f :: r,0,_ => rfl
 |f :: r,i + 1,h => by
  have :=tak_ft r (i :=i) (by simpa using h)
  rw [show (i + 1) * 4 = i * 4 + 4 by omega]
  exact this
 | [],i,h => absurd h (Nat.not_lt_zero _)
theorem rFeast_pure (f:Ft):Pure prog 61 [ftV f] (.bool (decide (ftOk f))) :=by
 obtain ⟨mv,mo,dy,af⟩ :=f
 cases mv with
 |true =>
  have p3 :=in6_pure af (-60) 60
  by_cases h1:mo = 0
  ·have e1:(mo == 0) = true :=beq_iff_eq.2 h1
   by_cases h2:dy = 0
   ·have e2:(dy == 0) = true :=beq_iff_eq.2 h2
    refine pure_sym hE rfl (by repeat' (first | exact trivial | assumption | exact flat_no _ | exact (fun _ h => nomatch h) | apply And.intro)) (by repeat' (first | exact trivial | assumption | exact flat_no _ | exact (fun _ h => nomatch h) | apply And.intro)) fun S q pc hS hq hC hE => ?_
    conv => whnf
    repeat ((first
     |refine ko_rT e1 ?_
     |refine ko_sF e1 ?_
     |refine plan_as (pick_t e1) ?_
     |refine bool_true e1 ?_
     |refine ko_rT (gd_tt e1) ?_
     |refine ko_sF (gd_tt e1) ?_
     |refine plan_as (pick_t (gd_tt e1)) ?_
     |refine bool_true (gd_tt e1) ?_
     |refine ko_rT e2 ?_
     |refine ko_sF e2 ?_
     |refine plan_as (pick_t e2) ?_
     |refine bool_true e2 ?_
     |refine ko_rT (gd_tt e2) ?_
     |refine ko_sF (gd_tt e2) ?_
     |refine plan_as (pick_t (gd_tt e2)) ?_
     |refine bool_true (gd_tt e2) ?_
     |refine sym_pure hC (p3) ?_
     |refine sym_drawn hS (by kernel_rfl) ?_);conv => whnf)
    exact ⟨_,rfl,wkb (decide_eq_decide.2 ⟨fun z => ⟨h1,h2,z⟩,fun z => z.2.2⟩)⟩
   ·have e2:(dy == 0) = false :=beq_eq_false_iff_ne.2 h2
    refine pure_sym hE rfl (by repeat' (first | exact trivial | assumption | exact flat_no _ | exact (fun _ h => nomatch h) | apply And.intro)) (by repeat' (first | exact trivial | assumption | exact flat_no _ | exact (fun _ h => nomatch h) | apply And.intro)) fun S q pc hS hq hC hE => ?_
    conv => whnf
    repeat ((first
     |refine ko_rT e1 ?_
     |refine ko_sF e1 ?_
     |refine plan_as (pick_t e1) ?_
     |refine bool_true e1 ?_
     |refine ko_rT (gd_tt e1) ?_
     |refine ko_sF (gd_tt e1) ?_
     |refine plan_as (pick_t (gd_tt e1)) ?_
     |refine bool_true (gd_tt e1) ?_
     |refine ko_sT e2 ?_
     |refine ko_rF e2 ?_
     |refine plan_as (pick_f e2) ?_
     |refine bool_false e2 ?_
     |refine ko_sT (gd_tf e2) ?_
     |refine ko_rF (gd_tf e2) ?_
     |refine plan_as (pick_f (gd_tf e2)) ?_
     |refine bool_false (gd_tf e2) ?_
     |refine sym_drawn hS (by kernel_rfl) ?_);conv => whnf)
    exact ⟨_,rfl,wkb (decide_eq_false fun z => h2 z.2.1).symm⟩
  ·have e1:(mo == 0) = false :=beq_eq_false_iff_ne.2 h1
   refine pure_sym hE rfl (by repeat' (first | exact trivial | assumption | exact flat_no _ | exact (fun _ h => nomatch h) | apply And.intro)) (by repeat' (first | exact trivial | assumption | exact flat_no _ | exact (fun _ h => nomatch h) | apply And.intro)) fun S q pc hS hq hC hE => ?_
   conv => whnf
   repeat ((first
    |refine ko_sT e1 ?_
    |refine ko_rF e1 ?_
    |refine plan_as (pick_f e1) ?_
    |refine bool_false e1 ?_
    |refine ko_sT (gd_tf e1) ?_
    |refine ko_rF (gd_tf e1) ?_
    |refine plan_as (pick_f (gd_tf e1)) ?_
    |refine bool_false (gd_tf e1) ?_
    |refine sym_drawn hS (by kernel_rfl) ?_);conv => whnf)
   exact ⟨_,rfl,wkb (decide_eq_false fun z => h1 z.1).symm⟩
 |false =>
  have p1 :=in6_pure mo 1 12
  have p2 :=in6_pure dy 1 31
  by_cases h1:1 ≤ mo ∧ mo ≤ 12
  ·have e1:decide (1 ≤ mo ∧ mo ≤ 12) = true :=decide_eq_true h1
   by_cases h2:1 ≤ dy ∧ dy ≤ 31
   ·have e2:decide (1 ≤ dy ∧ dy ≤ 31) = true :=decide_eq_true h2
    rw [e1] at p1
    rw [e2] at p2
    refine pure_sym hE rfl (by repeat' (first | exact trivial | assumption | exact flat_no _ | exact (fun _ h => nomatch h) | apply And.intro)) (by repeat' (first | exact trivial | assumption | exact flat_no _ | exact (fun _ h => nomatch h) | apply And.intro)) fun S q pc hS hq hC hE => ?_
    conv => whnf
    repeat ((first
     |refine ko_rT (gd_tt e1) ?_
     |refine ko_sF (gd_tt e1) ?_
     |refine plan_as (pick_t (gd_tt e1)) ?_
     |refine bool_true (gd_tt e1) ?_
     |refine sym_pure hC (p1) ?_
     |refine sym_pure hC (p2) ?_
     |refine sym_drawn hS (by kernel_rfl) ?_);conv => whnf)
    exact ⟨_,rfl,wkb (by rw [Bool.eq_iff_iff,beq_iff_eq,decide_eq_true_iff];exact ⟨fun z => ⟨h1,h2,z⟩,fun z => z.2.2⟩)⟩
   ·have e2:decide (1 ≤ dy ∧ dy ≤ 31) = false :=decide_eq_false h2
    rw [e1] at p1
    rw [e2] at p2
    refine pure_sym hE rfl (by repeat' (first | exact trivial | assumption | exact flat_no _ | exact (fun _ h => nomatch h) | apply And.intro)) (by repeat' (first | exact trivial | assumption | exact flat_no _ | exact (fun _ h => nomatch h) | apply And.intro)) fun S q pc hS hq hC hE => ?_
    conv => whnf
    repeat ((first
     |refine ko_rT (gd_tt e1) ?_
     |refine ko_sF (gd_tt e1) ?_
     |refine plan_as (pick_t (gd_tt e1)) ?_
     |refine bool_true (gd_tt e1) ?_
     |refine sym_pure hC (p1) ?_
     |refine sym_pure hC (p2) ?_
     |refine sym_drawn hS (by kernel_rfl) ?_);conv => whnf)
    exact ⟨_,rfl,wkb (decide_eq_false fun z => h2 z.2.1).symm⟩
  ·rw [decide_eq_false h1] at p1
   refine pure_sym hE rfl (by repeat' (first | exact trivial | assumption | exact flat_no _ | exact (fun _ h => nomatch h) | apply And.intro)) (by repeat' (first | exact trivial | assumption | exact flat_no _ | exact (fun _ h => nomatch h) | apply And.intro)) fun S q pc hS hq hC hE => ?_
   conv => whnf
   repeat ((first
    |refine ko_rT (gd_tt h1) ?_
    |refine ko_sF (gd_tt h1) ?_
    |refine plan_as (pick_t (gd_tt h1)) ?_
    |refine bool_true (gd_tt h1) ?_
    |refine sym_pure hC (p1) ?_
    |refine sym_pure hC (p2) ?_
    |refine sym_drawn hS (by kernel_rfl) ?_);conv => whnf)
   exact ⟨_,rfl,wkb (decide_eq_false fun z => h1 z.1).symm⟩
theorem badFt_pure {f:Ft} (h:ftOk f):Pure prog 121 [ftV f] (.bool false) :=by
 obtain ⟨mv,mo,dy,af⟩ :=f
 cases mv with
 |true =>
  have h:mo = 0 ∧ dy = 0 ∧ -60 ≤ af ∧ af ≤ 60 :=h
  obtain ⟨rfl,rfl,h3⟩ :=h
  have p3 :=din_pure af (-60) 60
  rw [decide_eq_true h3] at p3
  refine pure_sym hE rfl (by repeat' (first | exact trivial | assumption | exact flat_no _ | exact (fun _ h => nomatch h) | apply And.intro)) (by repeat' (first | exact trivial | assumption | exact flat_no _ | exact (fun _ h => nomatch h) | apply And.intro)) fun S q pc hS hq hC hE => ?_
  conv => whnf
  refine sym_pure hC (p3) ?_
  conv => whnf
  exact ⟨_,rfl,Wk.refl _⟩
 |false =>
  have h:(1 ≤ mo ∧ mo ≤ 12) ∧ (1 ≤ dy ∧ dy ≤ 31) ∧ af = 0 :=h
  obtain ⟨h1,h2,rfl⟩ :=h
  have p1 :=din_pure mo 1 12
  have p2 :=din_pure dy 1 31
  rw [decide_eq_true h1] at p1
  rw [decide_eq_true h2] at p2
  refine pure_sym hE rfl (by repeat' (first | exact trivial | assumption | exact flat_no _ | exact (fun _ h => nomatch h) | apply And.intro)) (by repeat' (first | exact trivial | assumption | exact flat_no _ | exact (fun _ h => nomatch h) | apply And.intro)) fun S q pc hS hq hC hE => ?_
  conv => whnf
  refine sym_pure hC (p1) ?_
  conv => whnf
  refine sym_pure hC (p2) ?_
  conv => whnf
  exact ⟨_,rfl,Wk.refl _⟩
def ftsOk (l:List Ft):Prop :=l.length ≤ 6 ∧ ∀ i,i < l.length → ftOk (gf l i)
instance (l:List Ft):Decidable (ftsOk l) :=Classical.propDecidable _
theorem rFts_pure (l:List Ft) (h6:l.length ≤ 6):Pure prog 22 [ftL l] (.bool (decide (ftsOk l))) :=by
 obtain ⟨B,hB⟩ : ∃ B,decide (ftsOk l) = B :=⟨_,rfl⟩
 rw [hB]
 have ll :=fts_no l
 refine pure_sym hE rfl (by repeat' (first | exact trivial | assumption | exact flat_no _ | exact (fun _ h => nomatch h) | apply And.intro)) (by repeat' (first | exact trivial | assumption | exact flat_no _ | exact (fun _ h => nomatch h) | apply And.intro)) fun S q pc hS hq hC hE => ?_
 conv => whnf
 refine sym_loop hE hS (A :=Nat) [0] (fun i => [(3,nv i)]) (fun _ => []) (fun i => i ≤ l.length ∧ ∀ j,j < i → ftOk (gf l j)) (fun i => l.length - i) 0 rfl rfl (by refine ⟨rfl,rfl,rfl,rfl,?_,?_⟩ <;> repeat' (first | exact trivial | exact rfl | exact Nat.zero_le _ | exact bdl_no ll | exact Nat.le_of_ble_eq_true rfl | exact bdl_no (by assumption) | exact bdl_no (flat_no _) | exact bdl_no (ivs_no _) | exact Nat.max_le.2 ⟨Nat.le_of_ble_eq_true rfl,bdl_no (ivs_no _)⟩ | apply And.intro)) ⟨Nat.zero_le _,fun j h => absurd h (Nat.not_lt_zero _)⟩ ?_
 intro i ⟨hi,hj⟩
 conv => whnf
 by_cases h:i < l.length
 ·rw [show decide (Int.ofNat i < ↑l.length) = true from ltN_t h]
  conv => whnf
  refine bool_true (inR_t h) ?_
  conv => whnf
  refine plan_as (takP (tak_ft l h)) ?_
  conv => whnf
  refine sym_pure hC (rFeast_pure (gf l i)) ?_
  conv => whnf
  by_cases hf:ftOk (gf l i)
  ·rw [decide_eq_true hf]
   conv => whnf
   have hw:IntKind.i64.wrap (Int.ofNat i + 1) = Int.ofNat (i + 1) :=wrapN (m :=i + 1) (by omega)
   exact ⟨i + 1,⟨h,upto hj hf⟩,by omega,(by refine ⟨rfl,rfl,rfl,rfl,?_,?_⟩ <;> repeat' (first | exact trivial | exact rfl | exact Nat.zero_le _ | exact congrArg (fun z => some (AV.int .i64 z)) hw | exact bdl_no ll | exact Nat.le_of_ble_eq_true rfl | exact bdl_no (by assumption) | exact bdl_no (flat_no _) | exact bdl_no (ivs_no _) | exact Nat.max_le.2 ⟨Nat.le_of_ble_eq_true rfl,bdl_no (ivs_no _)⟩ | apply And.intro))⟩
  ·rw [decide_eq_false hf]
   conv => whnf
   rw [show B = false from hB.symm.trans (decide_eq_false fun k => hf (k.2 i h))]
   exact ⟨_,rfl,Wk.refl _⟩
 ·rw [show decide (Int.ofNat i < ↑l.length) = false from ltN_f h]
  conv => whnf
  rw [show B = true from hB.symm.trans (decide_eq_true ⟨h6,fun j hj2 => hj j (by omega)⟩)]
  exact ⟨_,rfl,wkb (decide_eq_true (by omega))⟩
theorem ftIdx_pure {l:List Ft} (h:ftsOk l):Pure prog 168 [ftL l,.func (.func 121) [] []] (iv (-1)) :=by
 have ll :=fts_no l
 have h6 :=h.1
 refine pure_sym hE rfl (by repeat' (first | exact trivial | assumption | exact flat_no _ | exact (fun _ h => nomatch h) | apply And.intro)) (by repeat' (first | exact trivial | assumption | exact flat_no _ | exact (fun _ h => nomatch h) | apply And.intro)) fun S q pc hS hq hC hE => ?_
 conv => whnf
 refine sym_loop hE hS (A :=Nat) [0,1,7] (fun i => [(8,nv i)]) (fun _ => []) (fun i => i ≤ l.length) (fun i => l.length - i) 0 rfl rfl (by refine ⟨rfl,rfl,rfl,rfl,?_,?_⟩ <;> repeat' (first | exact trivial | exact rfl | exact Nat.zero_le _ | exact bdl_no ll | exact Nat.le_of_ble_eq_true rfl | exact bdl_no (by assumption) | exact bdl_no (flat_no _) | exact bdl_no (ivs_no _) | exact Nat.max_le.2 ⟨Nat.le_of_ble_eq_true rfl,bdl_no (ivs_no _)⟩ | apply And.intro)) (Nat.zero_le _) ?_
 intro i hi
 conv => whnf
 by_cases h1:i < l.length
 ·rw [show decide (Int.ofNat i < ↑l.length) = true from ltN_t h1]
  conv => whnf
  refine bool_true (inR_t h1) ?_
  conv => whnf
  refine plan_as (takP (tak_ft l h1)) ?_
  conv => whnf
  refine sym_pure hC (badFt_pure (h.2 i h1)) ?_
  conv => whnf
  have hw:IntKind.i64.wrap (Int.ofNat i + 1) = Int.ofNat (i + 1) :=wrapN (m :=i + 1) (by omega)
  exact ⟨i + 1,h1,by omega,(by refine ⟨rfl,rfl,rfl,rfl,?_,?_⟩ <;> repeat' (first | exact trivial | exact rfl | exact Nat.zero_le _ | exact congrArg (fun z => some (AV.int .i64 z)) hw | exact bdl_no ll | exact Nat.le_of_ble_eq_true rfl | exact bdl_no (by assumption) | exact bdl_no (flat_no _) | exact bdl_no (ivs_no _) | exact Nat.max_le.2 ⟨Nat.le_of_ble_eq_true rfl,bdl_no (ivs_no _)⟩ | apply And.intro))⟩
 ·rw [show decide (Int.ofNat i < ↑l.length) = false from ltN_f h1]
  conv => whnf
  exact ⟨_,rfl,Wk.refl _⟩
theorem ftHas_pure {l:List Ft} (h:ftsOk l):Pure prog 120 [ftL l,.func (.func 121) [] []] (.bool false) :=by
 have ll :=fts_no l
 refine pure_sym hE rfl (by repeat' (first | exact trivial | assumption | exact flat_no _ | exact (fun _ h => nomatch h) | apply And.intro)) (by repeat' (first | exact trivial | assumption | exact flat_no _ | exact (fun _ h => nomatch h) | apply And.intro)) fun S q pc hS hq hC hE => ?_
 conv => whnf
 refine sym_pure hC (ftIdx_pure h) ?_
 conv => whnf
 exact ⟨_,rfl,Wk.refl _⟩
theorem areFts_pure {l:List Ft} (h:ftsOk l):Pure prog 64 [ftL l] (.bool true) :=by
 have ll :=fts_no l
 have h6 :=h.1
 have e1:decide ((l.length:Int) ≤ 6) = true :=decide_eq_true (by omega)
 refine pure_sym hE rfl (by repeat' (first | exact trivial | assumption | exact flat_no _ | exact (fun _ h => nomatch h) | apply And.intro)) (by repeat' (first | exact trivial | assumption | exact flat_no _ | exact (fun _ h => nomatch h) | apply And.intro)) fun S q pc hS hq hC hE => ?_
 conv => whnf
 repeat ((first
  |refine ko_rT e1 ?_
  |refine ko_sF e1 ?_
  |refine plan_as (pick_t e1) ?_
  |refine bool_true e1 ?_
  |refine ko_rT (gd_tt e1) ?_
  |refine ko_sF (gd_tt e1) ?_
  |refine plan_as (pick_t (gd_tt e1)) ?_
  |refine bool_true (gd_tt e1) ?_
  |refine sym_pure hC (ftHas_pure h) ?_
  |refine sym_drawn hS (by kernel_rfl) ?_);conv => whnf)
 exact ⟨_,rfl,Wk.refl _⟩
end
end Go.Abs.Seat
