/-
  The document's order of trains.
  Whether two trains are the same: the document's.
  The document's near of no products; what ref.Nearest needs beside.
  A train of listed pairs is a train.
-/
import Derived.Test.YtpjclnoehlflcaaGreatDoorU9
import Derived.Test.YtpjclnoehlflcaaGreatDoorT51
import Derived.Test.YtpjclnoehlflcaaGreatDoorU6
import Derived.Test.YtpjclnoehlflcaaGreatDoorU7
/-! The document's order of trains. -/
namespace Go.Abs.Seat
noncomputable section
open Go Go.Abs Go.Proofs.Tryz
set_option maxRecDepth 100000
set_option maxHeartbeats 40000000
attribute [local irreducible] IntKind.wrap pEq
def sooB:List (Nat × Nat) → List (Nat × Nat) → Bool
 | [],[] => false
 | [],_ :: _ => true
 | _ :: _,[] => false
 |p :: r,q :: s => if p = q then sooB r s else decide (ltQ p q)
theorem rSooner_pure (u v:List (Nat × Nat)) (hu:u.length < 4611686018427387904):Pure prog 38 [pv (zp u),pv (zp v)] (.bool (sooB u v)) :=by
 have lu :=flat_no (zp u)
 have lw :=flat_no (zp v)
 have hzu :=zp_len u
 have hzv :=zp_len v
 refine zA fun S q pc hS hq hC hE => ?_
 conv=>whnf
 refine sym_loop hE hS (A :=Nat) [0,1] (fun i => [(5,nv i)]) (fun _ => []) (fun i => i ≤ u.length ∧ i ≤ v.length ∧ sooB (u.drop i) (v.drop i) = sooB u v) (fun i => u.length - i) 0 rfl rfl zD ⟨Nat.zero_le _,Nat.zero_le _,rfl⟩ ?_
 intro i ⟨hi,hi2,he⟩
 have hi1:i < u.length → IntKind.i64.wrap (Int.ofNat i + 1) = Int.ofNat (i + 1) :=fun h => wrapN (m :=i + 1) (by omega)
 conv=>whnf
 by_cases h:i < u.length
 ·have c1:decide (Int.ofNat i < ((zp u).length:Int)) = true :=zT (by rw [hzu];show (i:Int) < _;omega)
  repeat ((first
   |refine ko_rT c1 ?_
   |refine ko_sF c1 ?_
   |refine plan_as (pick_t c1) ?_
   |refine bool_true c1 ?_
   |refine zd hS ?_);conv=>whnf)
  by_cases h2:i < v.length
  ·have c2:decide (Int.ofNat i < ((zp v).length:Int)) = true :=zT (by rw [hzv];show (i:Int) < _;omega)
   repeat ((first
    |refine ko_rT c1 ?_
    |refine ko_sF c1 ?_
    |refine plan_as (pick_t c1) ?_
    |refine bool_true c1 ?_
    |refine ko_rT c2 ?_
    |refine ko_sF c2 ?_
    |refine plan_as (pick_t c2) ?_
    |refine bool_true c2 ?_
    |refine zd hS ?_);conv=>whnf)
   refine plan_as (takP (tak_zp u h)) ?_
   conv=>whnf
   repeat ((first
    |refine ko_rT c1 ?_
    |refine ko_sF c1 ?_
    |refine plan_as (pick_t c1) ?_
    |refine bool_true c1 ?_
    |refine ko_rT c2 ?_
    |refine ko_sF c2 ?_
    |refine plan_as (pick_t c2) ?_
    |refine bool_true c2 ?_
    |refine zd hS ?_);conv=>whnf)
   refine plan_as (takP (tak_zp v h2)) ?_
   conv=>whnf
   rw [drop_gq u h,drop_gq v h2,sooB] at he
   by_cases h3:gq u i = gq v i
   ·rw [if_pos h3] at he
    have hq':∀ cst,q0 97 cst (fv (gq u i).1 (gq u i).2) (fv (gq v i).1 (gq v i).2) = some true :=fun cst => by rw [h3];exact eqQ_same (.inr rfl) cst _ _
    refine sym_eq hq true (hq' _) ?_
    conv=>whnf
    refine zd hS ?_
    conv=>whnf
    exact ⟨i + 1,⟨h,h2,he⟩,by omega,(by refine ⟨rfl,rfl,rfl,rfl,?_,?_⟩ <;> repeat' (first | exact congrArg (fun z => some (AV.int .i64 z)) (hi1 h) | exact zZ | apply And.intro))⟩
   ·rw [if_neg h3] at he
    refine sym_eq hq false (eqQ_ne (.inr rfl) _ _ _ _ _ fun k => h3 (Prod.ext (Int.ofNat.inj k.1) (Int.ofNat.inj k.2))) ?_
    conv=>whnf
    refine zd hS ?_
    conv=>whnf
    repeat ((first
     |refine ko_rT c1 ?_
     |refine ko_sF c1 ?_
     |refine plan_as (pick_t c1) ?_
     |refine bool_true c1 ?_
     |refine ko_rT c2 ?_
     |refine ko_sF c2 ?_
     |refine plan_as (pick_t c2) ?_
     |refine bool_true c2 ?_
     |refine zd hS ?_);conv=>whnf)
    refine plan_as (takP (tak_zp u h)) ?_
    conv=>whnf
    repeat ((first
     |refine ko_rT c1 ?_
     |refine ko_sF c1 ?_
     |refine plan_as (pick_t c1) ?_
     |refine bool_true c1 ?_
     |refine ko_rT c2 ?_
     |refine ko_sF c2 ?_
     |refine plan_as (pick_t c2) ?_
     |refine bool_true c2 ?_
     |refine zd hS ?_);conv=>whnf)
    refine plan_as (takP (tak_zp v h2)) ?_
    conv=>whnf
    have hb :=before_pure (Int.ofNat (gq u i).1) (Int.ofNat (gq u i).2) (Int.ofNat (gq v i).1) (Int.ofNat (gq v i).2)
    have e:decide (ordP (Int.ofNat (gq u i).1) (Int.ofNat (gq u i).2) (Int.ofNat (gq v i).1) (Int.ofNat (gq v i).2) < 0) = sooB u v :=by
     rw [← he]
     refine decide_eq_decide.2 (ordP_lt.trans ?_)
     show ((gq u i).1:Int) < ((gq v i).1:Int) ∨ _ ∧ ((gq u i).2:Int) < ((gq v i).2:Int) ↔ (gq u i).1 < (gq v i).1 ∨ _
     have e2:(Int.ofNat (gq u i).1 = Int.ofNat (gq v i).1) ↔ (gq u i).1 = (gq v i).1 :=⟨fun k => Int.ofNat.inj k,fun k => congrArg _ k⟩
     rw [e2,Int.ofNat_lt,Int.ofNat_lt]
    rw [e] at hb
    refine sym_pure hC hb ?_
    conv=>whnf
    refine zd hS ?_
    conv=>whnf
    exact ⟨_,rfl,Wk.refl _⟩
  ·have c2:decide (Int.ofNat i < ((zp v).length:Int)) = false :=zF (by rw [hzv];show ¬ (i:Int) < _;omega)
   repeat ((first
    |refine ko_rT c1 ?_
    |refine ko_sF c1 ?_
    |refine plan_as (pick_t c1) ?_
    |refine bool_true c1 ?_
    |refine ko_sT c2 ?_
    |refine ko_rF c2 ?_
    |refine plan_as (pick_f c2) ?_
    |refine bool_false c2 ?_
    |refine zd hS ?_);conv=>whnf)
   conv=>whnf
   have c3:decide (((zp u).length:Int) < ((zp v).length:Int)) = sooB u v :=by
    have e1:v.drop i = [] :=List.drop_eq_nil_of_le (by omega)
    rw [← he,e1,drop_gq u h,hzu,hzv]
    exact zF (by omega)
   rw [c3]
   exact ⟨_,rfl,Wk.refl _⟩
 ·have c1:decide (Int.ofNat i < ((zp u).length:Int)) = false :=zF (by rw [hzu];show ¬ (i:Int) < _;omega)
  repeat ((first
   |refine ko_sT c1 ?_
   |refine ko_rF c1 ?_
   |refine plan_as (pick_f c1) ?_
   |refine bool_false c1 ?_
   |refine zd hS ?_);conv=>whnf)
  conv=>whnf
  have e0:i = u.length :=by omega
  have c3:decide (((zp u).length:Int) < ((zp v).length:Int)) = sooB u v :=by
   have e1:u.drop i = [] :=List.drop_eq_nil_of_le (by omega)
   rw [← he,e1,hzu,hzv]
   cases h:v.drop i with
   |nil => exact zF (by have :=List.drop_eq_nil_iff.1 h;omega)
   |cons a b => exact zT (by have :=congrArg List.length h;rw [List.length_drop] at this;simp only [List.length_cons] at this;omega)
  rw [c3]
  exact ⟨_,rfl,Wk.refl _⟩
end
end Go.Abs.Seat

/-! Whether two trains are the same: the document's. -/
namespace Go.Abs.Seat
noncomputable section
open Go Go.Abs Go.Proofs.Tryz
set_option maxRecDepth 100000
set_option maxHeartbeats 40000000
attribute [local irreducible] IntKind.wrap pEq
end
end Go.Abs.Seat

/-! The document's near of no products; what ref.Nearest needs beside. -/
namespace Go.Abs.Seat
noncomputable section
open Go Go.Abs Go.Proofs.Tryz
set_option maxRecDepth 100000
set_option maxHeartbeats 40000000
attribute [local irreducible] IntKind.wrap pEq
end
end Go.Abs.Seat

/-! A train of listed pairs is a train. -/
namespace Go.Abs.Seat
noncomputable section
open Go Go.Abs Go.Proofs.Tryz
set_option maxRecDepth 100000
set_option maxHeartbeats 4000000
theorem tv_zp {tq:Nat → Prop} (ht:∀ n,tq n → 4 ≤ n ∧ n ≤ 60) {t:List (Nat × Nat)} (hl:1 ≤ t.length ∧ t.length ≤ 3) (h:AllT tq t):TV (pv (zp t)) t.length (redF (xP t) (yP t)).1 (redF (xP t) (yP t)).2 :=by
 have key:∀ n,tq n → tth (Int.ofNat n) :=fun n hn => by
  have :=ht n hn
  unfold tth
  simp only [Int.ofNat_eq_natCast]
  omega
 match t,hl,h with
 | [(x0,y0)],_,h =>
  have i :=isTrain1 (Int.ofNat x0) (Int.ofNat y0)
  have r :=rTrain1 (Int.ofNat x0) (Int.ofNat y0)
  have g0 :=ht _ h.1.1
  have g1 :=ht _ h.1.2
  rw [zT (show gd [(Int.ofNat x0,Int.ofNat y0)] from ⟨⟨key _ h.1.1,key _ h.1.2⟩,trivial⟩)] at i r
  have b :=red_le (a :=1 * x0) (b :=1 * y0) (by omega) (by omega)
  have e1:xP [(x0,y0)] = 1 * x0 :=by show x0 * 1 = _;omega
  have e2:yP [(x0,y0)] = 1 * y0 :=by show y0 * 1 = _;omega
  rw [e1,e2]
  exact ⟨⟨_,rfl,flat_no _⟩,⟨Nat.le_of_ble_eq_true rfl,Nat.le_of_ble_eq_true rfl⟩,i,r,turns1 x0 y0 (by omega),rTurns1 x0 y0 (by omega),b.1,b.2.1,b.2.2⟩
 | [(x0,y0),(x1,y1)],_,h =>
  have i :=isTrain2 (Int.ofNat x0) (Int.ofNat y0) (Int.ofNat x1) (Int.ofNat y1)
  have r :=rTrain2 (Int.ofNat x0) (Int.ofNat y0) (Int.ofNat x1) (Int.ofNat y1)
  have g0 :=ht _ h.1.1
  have g1 :=ht _ h.1.2
  have g2 :=ht _ h.2.1.1
  have g3 :=ht _ h.2.1.2
  rw [zT (show gd [(Int.ofNat x0,Int.ofNat y0),(Int.ofNat x1,Int.ofNat y1)] from ⟨⟨key _ h.1.1,key _ h.1.2⟩,⟨key _ h.2.1.1,key _ h.2.1.2⟩,trivial⟩)] at i r
  have q1:1 * x0 * x1 ≤ 60 * 60 :=Nat.mul_le_mul (show 1 * x0 ≤ 60 by omega) (by omega)
  have q2:1 * y0 * y1 ≤ 60 * 60 :=Nat.mul_le_mul (show 1 * y0 ≤ 60 by omega) (by omega)
  have p1:1 ≤ 1 * x0 * x1 :=Nat.mul_pos (show 0 < 1 * x0 by omega) (by omega)
  have p2:1 ≤ 1 * y0 * y1 :=Nat.mul_pos (show 0 < 1 * y0 by omega) (by omega)
  have b :=red_le (a :=1 * x0 * x1) (b :=1 * y0 * y1) (by omega) (by omega)
  have e1:xP [(x0,y0),(x1,y1)] = 1 * x0 * x1 :=by show x0 * (x1 * 1) = _;rw [Nat.mul_one,Nat.one_mul]
  have e2:yP [(x0,y0),(x1,y1)] = 1 * y0 * y1 :=by show y0 * (y1 * 1) = _;rw [Nat.mul_one,Nat.one_mul]
  rw [e1,e2]
  exact ⟨⟨_,rfl,flat_no _⟩,⟨Nat.le_of_ble_eq_true rfl,Nat.le_of_ble_eq_true rfl⟩,i,r,turns2 x0 y0 x1 y1 (by omega) (by omega),rTurns2 x0 y0 x1 y1 (by omega) (by omega),b.1,b.2.1,b.2.2⟩
 | [(x0,y0),(x1,y1),(x2,y2)],_,h =>
  have i :=isTrain3 (Int.ofNat x0) (Int.ofNat y0) (Int.ofNat x1) (Int.ofNat y1) (Int.ofNat x2) (Int.ofNat y2)
  have r :=rTrain3 (Int.ofNat x0) (Int.ofNat y0) (Int.ofNat x1) (Int.ofNat y1) (Int.ofNat x2) (Int.ofNat y2)
  have g0 :=ht _ h.1.1
  have g1 :=ht _ h.1.2
  have g2 :=ht _ h.2.1.1
  have g3 :=ht _ h.2.1.2
  have g4 :=ht _ h.2.2.1.1
  have g5 :=ht _ h.2.2.1.2
  rw [zT (show gd [(Int.ofNat x0,Int.ofNat y0),(Int.ofNat x1,Int.ofNat y1),(Int.ofNat x2,Int.ofNat y2)] from ⟨⟨key _ h.1.1,key _ h.1.2⟩,⟨key _ h.2.1.1,key _ h.2.1.2⟩,⟨key _ h.2.2.1.1,key _ h.2.2.1.2⟩,trivial⟩)] at i r
  have q1:1 * x0 * x1 ≤ 60 * 60 :=Nat.mul_le_mul (show 1 * x0 ≤ 60 by omega) (by omega)
  have q2:1 * y0 * y1 ≤ 60 * 60 :=Nat.mul_le_mul (show 1 * y0 ≤ 60 by omega) (by omega)
  have q3:1 * x0 * x1 * x2 ≤ 60 * 60 * 60 :=Nat.mul_le_mul q1 (by omega)
  have q4:1 * y0 * y1 * y2 ≤ 60 * 60 * 60 :=Nat.mul_le_mul q2 (by omega)
  have p1:1 ≤ 1 * x0 * x1 :=Nat.mul_pos (show 0 < 1 * x0 by omega) (by omega)
  have p2:1 ≤ 1 * y0 * y1 :=Nat.mul_pos (show 0 < 1 * y0 by omega) (by omega)
  have p3:1 ≤ 1 * x0 * x1 * x2 :=Nat.mul_pos p1 (by omega)
  have p4:1 ≤ 1 * y0 * y1 * y2 :=Nat.mul_pos p2 (by omega)
  have b :=red_le (a :=1 * x0 * x1 * x2) (b :=1 * y0 * y1 * y2) (by omega) (by omega)
  have e1:xP [(x0,y0),(x1,y1),(x2,y2)] = 1 * x0 * x1 * x2 :=by show x0 * (x1 * (x2 * 1)) = _;rw [Nat.mul_one,Nat.one_mul,Nat.mul_assoc]
  have e2:yP [(x0,y0),(x1,y1),(x2,y2)] = 1 * y0 * y1 * y2 :=by show y0 * (y1 * (y2 * 1)) = _;rw [Nat.mul_one,Nat.one_mul,Nat.mul_assoc]
  rw [e1,e2]
  exact ⟨⟨_,rfl,flat_no _⟩,⟨Nat.le_of_ble_eq_true rfl,Nat.le_of_ble_eq_true rfl⟩,i,r,turns3 x0 y0 x1 y1 x2 y2 (by omega) (by omega) (by omega),rTurns3 x0 y0 x1 y1 x2 y2 (by omega) (by omega) (by omega),b.1,b.2.1,b.2.2⟩
end
end Go.Abs.Seat
