/-
  The document's order of trains.
  Whether two trains are the same: the document's.
  The document's near of no products; what ref.Nearest needs beside.
  A train of listed pairs is a train.
-/
import Derived.Test.YtpjclnoehlflcaaGreatDoorU9
import Derived.Test.YtpjclnoehlflcaaGreatDoorT51
import Derived.Test.YtpjclnoehlflcaaGreatDoorU6
import Derived.Test.YtpjclnoehlflcaaGreatDoorU7
namespace Go.Abs.Seat
noncomputable section
open Go Go.Abs Go.Proofs.Tryz
set_option maxRecDepth 100000
set_option maxHeartbeats 40000000
attribute [local irreducible] IntKind.wrap pEq
def sooB:List (Nat × Nat) → List (Nat × Nat) → Bool
 | [],[] => false
 | [],_ :: _ => true
 | _ :: _,[] => false
 |p :: r,q :: s => if p = q then sooB r s else decide (ltQ p q)
theorem qnp:∀ {u v:List (Nat × Nat)},u.length = v.length → (sooB u v = true ↔ ltL u v)
 | [],[],_ => by simp [sooB,ltL]
 | [],_ :: _,h => by cases h
 | _ :: _,[],h => by cases h
 |p :: r,q :: s,h => by
  rw [sooB,ltL]
  by_cases e:p = q
  ·rw [if_pos e,qnp (by simpa using h)]
   exact ⟨fun k => .inr ⟨e,k⟩,fun k => k.elim (fun k => absurd (e ▸ k) (qle _)) (·.2)⟩
  ·rw [if_neg e,decide_eq_true_iff]
   exact ⟨.inl,fun k => k.elim id fun k => absurd k.1 e⟩
theorem qe4 (u v:List (Nat × Nat)) (hu:u.length < 4611686018427387904):Pure prog 38 [pv (zp u),pv (zp v)] (.bool (sooB u v)) :=by
 have lu :=qag (zp u)
 have lw :=qag (zp v)
 have hzu :=qa9 u
 have hzv :=qa9 v
 refine zA fun S q pc hS hq hC hE => ?_
 conv=>whnf
 refine qbh hE hS (A :=Nat) [0,1] (fun i => [(5,nv i)]) (fun _ => []) (fun i => i ≤ u.length ∧ i ≤ v.length ∧ sooB (u.drop i) (v.drop i) = sooB u v) (fun i => u.length - i) 0 rfl rfl zD ⟨Nat.zero_le _,Nat.zero_le _,rfl⟩ ?_
 intro i ⟨hi,hi2,he⟩
 have hi1:i < u.length → IntKind.i64.wrap (Int.ofNat i + 1) = Int.ofNat (i + 1) :=fun h => qa2 (m :=i + 1) (by omega)
 conv=>whnf
 by_cases h:i < u.length
 ·have c1:decide (Int.ofNat i < ((zp u).length:Int)) = true :=zT (by rw [hzu];show (i:Int) < _;omega)
  repeat ((first
   |refine qam c1 ?_
   |refine qal c1 ?_
   |refine qac (qah c1) ?_
   |refine qaa c1 ?_
   |refine zd hS ?_);conv=>whnf)
  by_cases h2:i < v.length
  ·have c2:decide (Int.ofNat i < ((zp v).length:Int)) = true :=zT (by rw [hzv];show (i:Int) < _;omega)
   repeat ((first
    |refine qam c1 ?_
    |refine qal c1 ?_
    |refine qac (qah c1) ?_
    |refine qaa c1 ?_
    |refine qam c2 ?_
    |refine qal c2 ?_
    |refine qac (qah c2) ?_
    |refine qaa c2 ?_
    |refine zd hS ?_);conv=>whnf)
   refine qac (takP (qbw u h)) ?_
   conv=>whnf
   repeat ((first
    |refine qam c1 ?_
    |refine qal c1 ?_
    |refine qac (qah c1) ?_
    |refine qaa c1 ?_
    |refine qam c2 ?_
    |refine qal c2 ?_
    |refine qac (qah c2) ?_
    |refine qaa c2 ?_
    |refine zd hS ?_);conv=>whnf)
   refine qac (takP (qbw v h2)) ?_
   conv=>whnf
   rw [qcc u h,qcc v h2,sooB] at he
   by_cases h3:gq u i = gq v i
   ·rw [if_pos h3] at he
    have hq':∀ cst,q0 97 cst (fv (gq u i).1 (gq u i).2) (fv (gq v i).1 (gq v i).2) = some true :=fun cst => by rw [h3];exact qlu (.inr rfl) cst _ _
    refine qa7 hq true (hq' _) ?_
    conv=>whnf
    refine zd hS ?_
    conv=>whnf
    exact ⟨i + 1,⟨h,h2,he⟩,by omega,(by refine ⟨rfl,rfl,rfl,rfl,?_,?_⟩ <;> repeat' (first | exact congrArg (fun z => some (AV.int .i64 z)) (hi1 h) | exact zZ | apply And.intro))⟩
   ·rw [if_neg h3] at he
    refine qa7 hq false (qu4 (.inr rfl) _ _ _ _ _ fun k => h3 (Prod.ext (Int.ofNat.inj k.1) (Int.ofNat.inj k.2))) ?_
    conv=>whnf
    refine zd hS ?_
    conv=>whnf
    repeat ((first
     |refine qam c1 ?_
     |refine qal c1 ?_
     |refine qac (qah c1) ?_
     |refine qaa c1 ?_
     |refine qam c2 ?_
     |refine qal c2 ?_
     |refine qac (qah c2) ?_
     |refine qaa c2 ?_
     |refine zd hS ?_);conv=>whnf)
    refine qac (takP (qbw u h)) ?_
    conv=>whnf
    repeat ((first
     |refine qam c1 ?_
     |refine qal c1 ?_
     |refine qac (qah c1) ?_
     |refine qaa c1 ?_
     |refine qam c2 ?_
     |refine qal c2 ?_
     |refine qac (qah c2) ?_
     |refine qaa c2 ?_
     |refine zd hS ?_);conv=>whnf)
    refine qac (takP (qbw v h2)) ?_
    conv=>whnf
    have hb :=qf1 (Int.ofNat (gq u i).1) (Int.ofNat (gq u i).2) (Int.ofNat (gq v i).1) (Int.ofNat (gq v i).2)
    have e:decide (ordP (Int.ofNat (gq u i).1) (Int.ofNat (gq u i).2) (Int.ofNat (gq v i).1) (Int.ofNat (gq v i).2) < 0) = sooB u v :=by
     rw [← he]
     refine decide_eq_decide.2 (qgz.trans ?_)
     show ((gq u i).1:Int) < ((gq v i).1:Int) ∨ _ ∧ ((gq u i).2:Int) < ((gq v i).2:Int) ↔ (gq u i).1 < (gq v i).1 ∨ _
     have e2:(Int.ofNat (gq u i).1 = Int.ofNat (gq v i).1) ↔ (gq u i).1 = (gq v i).1 :=⟨fun k => Int.ofNat.inj k,fun k => congrArg _ k⟩
     rw [e2,Int.ofNat_lt,Int.ofNat_lt]
    rw [e] at hb
    refine qab hC hb ?_
    conv=>whnf
    refine zd hS ?_
    conv=>whnf
    exact ⟨_,rfl,Wk.refl _⟩
  ·have c2:decide (Int.ofNat i < ((zp v).length:Int)) = false :=zF (by rw [hzv];show ¬ (i:Int) < _;omega)
   repeat ((first
    |refine qam c1 ?_
    |refine qal c1 ?_
    |refine qac (qah c1) ?_
    |refine qaa c1 ?_
    |refine qaz c2 ?_
    |refine qa0 c2 ?_
    |refine qac (qar c2) ?_
    |refine qad c2 ?_
    |refine zd hS ?_);conv=>whnf)
   conv=>whnf
   have c3:decide (((zp u).length:Int) < ((zp v).length:Int)) = sooB u v :=by
    have e1:v.drop i = [] :=List.drop_eq_nil_of_le (by omega)
    rw [← he,e1,qcc u h,hzu,hzv]
    exact zF (by omega)
   rw [c3]
   exact ⟨_,rfl,Wk.refl _⟩
 ·have c1:decide (Int.ofNat i < ((zp u).length:Int)) = false :=zF (by rw [hzu];show ¬ (i:Int) < _;omega)
  repeat ((first
   |refine qaz c1 ?_
   |refine qa0 c1 ?_
   |refine qac (qar c1) ?_
   |refine qad c1 ?_
   |refine zd hS ?_);conv=>whnf)
  conv=>whnf
  have e0:i = u.length :=by omega
  have c3:decide (((zp u).length:Int) < ((zp v).length:Int)) = sooB u v :=by
   have e1:u.drop i = [] :=List.drop_eq_nil_of_le (by omega)
   rw [← he,e1,hzu,hzv]
   cases h:v.drop i with
   |nil => exact zF (by have :=List.drop_eq_nil_iff.1 h;omega)
   |cons a b => exact zT (by have :=congrArg List.length h;rw [List.length_drop] at this;simp only [List.length_cons] at this;omega)
  rw [c3]
  exact ⟨_,rfl,Wk.refl _⟩
theorem q0c (u v:List (Nat × Nat)) {i:Nat} (h:i < u.length) (h2:i < v.length):(u.drop i = v.drop i) ↔ (gq u i = gq v i ∧ u.drop (i + 1) = v.drop (i + 1)) :=by
 rw [qcc u h,qcc v h2,List.cons.injEq]
theorem qrc (u v:List (Nat × Nat)) (hu:u.length < 4611686018427387904):Pure prog 36 [pv (zp u),pv (zp v)] (.bool (decide (u = v))) :=by
 have lu :=qag (zp u)
 have lw :=qag (zp v)
 have hzu :=qa9 u
 have hzv :=qa9 v
 refine zA fun S q pc hS hq hC hE => ?_
 conv=>whnf
 by_cases hn:u.length = v.length
 ·have c0:(((zp u).length:Int) != ((zp v).length:Int)) = false :=by rw [hzu,hzv,hn];exact bne_self_eq_false _
  repeat ((first
   |refine qaz c0 ?_
   |refine qa0 c0 ?_
   |refine qac (qar c0) ?_
   |refine qad c0 ?_
   |refine zd hS ?_);conv=>whnf)
  refine qbh hE hS (A :=Nat) [0,1] (fun i => [(5,nv i)]) (fun _ => []) (fun i => i ≤ u.length ∧ (u.drop i = v.drop i ↔ u = v)) (fun i => u.length - i) 0 rfl rfl zD ⟨Nat.zero_le _,.rfl⟩ ?_
  intro i ⟨hi,he⟩
  have hi1:i < u.length → IntKind.i64.wrap (Int.ofNat i + 1) = Int.ofNat (i + 1) :=fun h => qa2 (m :=i + 1) (by omega)
  conv=>whnf
  by_cases h:i < u.length
  ·have c1:decide (Int.ofNat i < ((zp u).length:Int)) = true :=zT (by rw [hzu];show (i:Int) < _;omega)
   have h2:i < v.length :=hn ▸ h
   have c2:decide (Int.ofNat i < ((zp v).length:Int)) = true :=zT (by rw [hzv];show (i:Int) < _;omega)
   repeat ((first
    |refine qam c1 ?_
    |refine qal c1 ?_
    |refine qac (qah c1) ?_
    |refine qaa c1 ?_
    |refine qam c2 ?_
    |refine qal c2 ?_
    |refine qac (qah c2) ?_
    |refine qaa c2 ?_
    |refine zd hS ?_);conv=>whnf)
   refine qac (takP (qbw u h)) ?_
   conv=>whnf
   repeat ((first
    |refine qam c1 ?_
    |refine qal c1 ?_
    |refine qac (qah c1) ?_
    |refine qaa c1 ?_
    |refine qam c2 ?_
    |refine qal c2 ?_
    |refine qac (qah c2) ?_
    |refine qaa c2 ?_
    |refine zd hS ?_);conv=>whnf)
   refine qac (takP (qbw v h2)) ?_
   conv=>whnf
   rw [q0c u v h h2] at he
   by_cases h3:gq u i = gq v i
   ·have hq':∀ cst,q0 97 cst (fv (gq u i).1 (gq u i).2) (fv (gq v i).1 (gq v i).2) = some true :=fun cst => by rw [h3];exact qlu (.inr rfl) cst _ _
    refine qa7 hq true (hq' _) ?_
    conv=>whnf
    refine zd hS ?_
    conv=>whnf
    exact ⟨i + 1,⟨h,⟨fun k => he.1 ⟨h3,k⟩,fun k => (he.2 k).2⟩⟩,by omega,(by refine ⟨rfl,rfl,rfl,rfl,?_,?_⟩ <;> repeat' (first | exact congrArg (fun z => some (AV.int .i64 z)) (hi1 h) | exact zZ | apply And.intro))⟩
   ·refine qa7 hq false (qu4 (.inr rfl) _ _ _ _ _ fun k => h3 (Prod.ext (Int.ofNat.inj k.1) (Int.ofNat.inj k.2))) ?_
    conv=>whnf
    refine zd hS ?_
    conv=>whnf
    have e:decide (u = v) = false :=zF fun k => h3 (by rw [k])
    rw [e]
    exact ⟨_,rfl,Wk.refl _⟩
  ·have c1:decide (Int.ofNat i < ((zp u).length:Int)) = false :=zF (by rw [hzu];show ¬ (i:Int) < _;omega)
   repeat ((first
    |refine qaz c1 ?_
    |refine qa0 c1 ?_
    |refine qac (qar c1) ?_
    |refine qad c1 ?_
    |refine zd hS ?_);conv=>whnf)
   have e1:u.drop i = [] :=List.drop_eq_nil_of_le (by omega)
   have e2:v.drop i = [] :=List.drop_eq_nil_of_le (by omega)
   have e:decide (u = v) = true :=zT (he.1 (by rw [e1,e2]))
   rw [e]
   exact ⟨_,rfl,Wk.refl _⟩
 ·have c0:(((zp u).length:Int) != ((zp v).length:Int)) = true :=bne_iff_ne.2 (by rw [hzu,hzv];omega)
  repeat ((first
   |refine qam c0 ?_
   |refine qal c0 ?_
   |refine qac (qah c0) ?_
   |refine qaa c0 ?_
   |refine zd hS ?_);conv=>whnf)
  have e:decide (u = v) = false :=zF fun k => hn (congrArg _ k)
  rw [e]
  exact ⟨_,rfl,Wk.refl _⟩
theorem qs5 (n d:Int):Pure prog 95 [.nils,fv n d] .nils :=by
 refine zA fun S q pc hS hq hC hE => ?_
 conv=>whnf
 refine qae hE hS ?_
 conv=>whnf
 exact ⟨_,rfl,Wk.refl _⟩
end
end Go.Abs.Seat
namespace Go.Abs.Seat
noncomputable section
open Go Go.Abs Go.Proofs.Tryz
set_option maxRecDepth 100000
set_option maxHeartbeats 4000000
theorem qyn {tq:Nat → Prop} (ht:∀ n,tq n → 4 ≤ n ∧ n ≤ 60) {t:List (Nat × Nat)} (hl:1 ≤ t.length ∧ t.length ≤ 3) (h:AllT tq t):TV (pv (zp t)) t.length (redF (xP t) (yP t)).1 (redF (xP t) (yP t)).2 :=by
 have key:∀ n,tq n → tth (Int.ofNat n) :=fun n hn => by
  have :=ht n hn
  unfold tth
  simp only [Int.ofNat_eq_natCast]
  omega
 match t,hl,h with
 | [(x0,y0)],_,h =>
  have i :=qlm (Int.ofNat x0) (Int.ofNat y0)
  have r :=qn2 (Int.ofNat x0) (Int.ofNat y0)
  have g0 :=ht _ h.1.1
  have g1 :=ht _ h.1.2
  rw [zT (show gd [(Int.ofNat x0,Int.ofNat y0)] from ⟨⟨key _ h.1.1,key _ h.1.2⟩,trivial⟩)] at i r
  have b :=qjo (a :=1 * x0) (b :=1 * y0) (by omega) (by omega)
  have e1:xP [(x0,y0)] = 1 * x0 :=by show x0 * 1 = _;omega
  have e2:yP [(x0,y0)] = 1 * y0 :=by show y0 * 1 = _;omega
  rw [e1,e2]
  exact ⟨⟨_,rfl,qag _⟩,⟨Nat.le_of_ble_eq_true rfl,Nat.le_of_ble_eq_true rfl⟩,i,r,qxp x0 y0 (by omega),qs4 x0 y0 (by omega),b.1,b.2.1,b.2.2⟩
 | [(x0,y0),(x1,y1)],_,h =>
  have i :=qll (Int.ofNat x0) (Int.ofNat y0) (Int.ofNat x1) (Int.ofNat y1)
  have r :=qn1 (Int.ofNat x0) (Int.ofNat y0) (Int.ofNat x1) (Int.ofNat y1)
  have g0 :=ht _ h.1.1
  have g1 :=ht _ h.1.2
  have g2 :=ht _ h.2.1.1
  have g3 :=ht _ h.2.1.2
  rw [zT (show gd [(Int.ofNat x0,Int.ofNat y0),(Int.ofNat x1,Int.ofNat y1)] from ⟨⟨key _ h.1.1,key _ h.1.2⟩,⟨key _ h.2.1.1,key _ h.2.1.2⟩,trivial⟩)] at i r
  have q1:1 * x0 * x1 ≤ 60 * 60 :=Nat.mul_le_mul (show 1 * x0 ≤ 60 by omega) (by omega)
  have q2:1 * y0 * y1 ≤ 60 * 60 :=Nat.mul_le_mul (show 1 * y0 ≤ 60 by omega) (by omega)
  have p1:1 ≤ 1 * x0 * x1 :=Nat.mul_pos (show 0 < 1 * x0 by omega) (by omega)
  have p2:1 ≤ 1 * y0 * y1 :=Nat.mul_pos (show 0 < 1 * y0 by omega) (by omega)
  have b :=qjo (a :=1 * x0 * x1) (b :=1 * y0 * y1) (by omega) (by omega)
  have e1:xP [(x0,y0),(x1,y1)] = 1 * x0 * x1 :=by show x0 * (x1 * 1) = _;rw [Nat.mul_one,Nat.one_mul]
  have e2:yP [(x0,y0),(x1,y1)] = 1 * y0 * y1 :=by show y0 * (y1 * 1) = _;rw [Nat.mul_one,Nat.one_mul]
  rw [e1,e2]
  exact ⟨⟨_,rfl,qag _⟩,⟨Nat.le_of_ble_eq_true rfl,Nat.le_of_ble_eq_true rfl⟩,i,r,qxo x0 y0 x1 y1 (by omega) (by omega),qs3 x0 y0 x1 y1 (by omega) (by omega),b.1,b.2.1,b.2.2⟩
 | [(x0,y0),(x1,y1),(x2,y2)],_,h =>
  have i :=qlk (Int.ofNat x0) (Int.ofNat y0) (Int.ofNat x1) (Int.ofNat y1) (Int.ofNat x2) (Int.ofNat y2)
  have r :=qn0 (Int.ofNat x0) (Int.ofNat y0) (Int.ofNat x1) (Int.ofNat y1) (Int.ofNat x2) (Int.ofNat y2)
  have g0 :=ht _ h.1.1
  have g1 :=ht _ h.1.2
  have g2 :=ht _ h.2.1.1
  have g3 :=ht _ h.2.1.2
  have g4 :=ht _ h.2.2.1.1
  have g5 :=ht _ h.2.2.1.2
  rw [zT (show gd [(Int.ofNat x0,Int.ofNat y0),(Int.ofNat x1,Int.ofNat y1),(Int.ofNat x2,Int.ofNat y2)] from ⟨⟨key _ h.1.1,key _ h.1.2⟩,⟨key _ h.2.1.1,key _ h.2.1.2⟩,⟨key _ h.2.2.1.1,key _ h.2.2.1.2⟩,trivial⟩)] at i r
  have q1:1 * x0 * x1 ≤ 60 * 60 :=Nat.mul_le_mul (show 1 * x0 ≤ 60 by omega) (by omega)
  have q2:1 * y0 * y1 ≤ 60 * 60 :=Nat.mul_le_mul (show 1 * y0 ≤ 60 by omega) (by omega)
  have q3:1 * x0 * x1 * x2 ≤ 60 * 60 * 60 :=Nat.mul_le_mul q1 (by omega)
  have q4:1 * y0 * y1 * y2 ≤ 60 * 60 * 60 :=Nat.mul_le_mul q2 (by omega)
  have p1:1 ≤ 1 * x0 * x1 :=Nat.mul_pos (show 0 < 1 * x0 by omega) (by omega)
  have p2:1 ≤ 1 * y0 * y1 :=Nat.mul_pos (show 0 < 1 * y0 by omega) (by omega)
  have p3:1 ≤ 1 * x0 * x1 * x2 :=Nat.mul_pos p1 (by omega)
  have p4:1 ≤ 1 * y0 * y1 * y2 :=Nat.mul_pos p2 (by omega)
  have b :=qjo (a :=1 * x0 * x1 * x2) (b :=1 * y0 * y1 * y2) (by omega) (by omega)
  have e1:xP [(x0,y0),(x1,y1),(x2,y2)] = 1 * x0 * x1 * x2 :=by show x0 * (x1 * (x2 * 1)) = _;rw [Nat.mul_one,Nat.one_mul,Nat.mul_assoc]
  have e2:yP [(x0,y0),(x1,y1),(x2,y2)] = 1 * y0 * y1 * y2 :=by show y0 * (y1 * (y2 * 1)) = _;rw [Nat.mul_one,Nat.one_mul,Nat.mul_assoc]
  rw [e1,e2]
  exact ⟨⟨_,rfl,qag _⟩,⟨Nat.le_of_ble_eq_true rfl,Nat.le_of_ble_eq_true rfl⟩,i,r,qxn x0 y0 x1 y1 x2 y2 (by omega) (by omega) (by omega),qs2 x0 y0 x1 y1 x2 y2 (by omega) (by omega) (by omega),b.1,b.2.1,b.2.2⟩
theorem qp4 {N D x y z w:Nat} (hy:1 ≤ y) (hw:1 ≤ w):(dQ N D (redF x y)).1 * (redF z w).2 ≤ (dQ N D (redF z w)).1 * (redF x y).2 ↔ fle (dQ N D (x,y)) (dQ N D (z,w)) :=by
 have h1 :=qpn (N :=N) (D :=D) (x :=x) hy
 have h2 :=qpn (N :=N) (D :=D) (x :=z) hw
 have p1 :=qd2 (x :=x) hy
 have p2 :=qd2 (x :=z) hw
 constructor
 ·intro h
  have h:fle (dQ N D (redF x y)) (dQ N D (redF z w)) :=h
  exact qb5 (b :=dQ N D (redF z w)) p2 (qb5 (b :=dQ N D (redF x y)) p1 h1.2 h) h2.1
 ·intro h
  have:fle (dQ N D (redF x y)) (dQ N D (redF z w)) :=qb5 (b :=dQ N D (z,w)) hw (qb5 (b :=dQ N D (x,y)) hy h1.1 h) h2.2
  exact this
end
end Go.Abs.Seat
