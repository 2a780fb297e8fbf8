/-
  The document's order of sharings.
-/
import Derived.Test.YtpjclnoehlflcaaGreatDoorU15
import Derived.Test.YtpjclnoehlflcaaGreatDoorU11
namespace Go.Abs.Seat
noncomputable section
open Go Go.Abs Go.Proofs.Tryz
set_option maxRecDepth 100000
set_option maxHeartbeats 40000000
attribute [local irreducible] IntKind.wrap pEq
def smA:Nat → List (List (Nat × Nat)) → Nat
 |a,[] => a
 |a,u :: r => smA (a + u.length) r
def wrA (t:Nat):Nat → List (Nat × Nat) → List (List (Nat × Nat)) → Nat
 |a,f :: fs,u :: us => wrA t (max a (wfN t f u)) fs us
 |a,_,_ => a
def earB:List (List (Nat × Nat)) → List (List (Nat × Nat)) → Bool
 |u :: a,v :: b => if sooB u v = true then true else if sooB v u = true then false else earB a b
 | _,_ => false
def prfB (t:Nat) (fs:List (Nat × Nat)) (a b:List (List (Nat × Nat))):Bool :=
 if wrA t 0 fs a = wrA t 0 fs b then if smA 0 a = smA 0 b then earB a b else decide (smA 0 a < smA 0 b) else decide (wrA t 0 fs a < wrA t 0 fs b)
def gT (u:List (Nat × Nat)):Prop :=1 ≤ u.length ∧ u.length ≤ 3 ∧ TV (pv (zp u)) u.length (redF (xP u) (yP u)).1 (redF (xP u) (yP u)).2
abbrev tlV (us:List (List (Nat × Nat))):AV :=.lst (tls us) us.length .no
theorem qen (us:List (List (Nat × Nat))) (hl:us.length ≤ 3) (hx:∀ u,u ∈ us → u.length ≤ 3):Pure prog 51 [tlV us] (nv (smA 0 us)) :=by
 have lu :=qba us
 refine zA fun S q pc hS hq hC hE => ?_
 conv=>whnf
 refine qbh hE hS (A :=Nat × Nat) [0] (fun (i,w) => [(3,nv w),(4,nv i)]) (fun _ => []) (fun (i,w) => i ≤ us.length ∧ w ≤ 3 * i ∧ smA w (us.drop i) = smA 0 us) (fun (i,_) => us.length - i) (0,0) rfl rfl zD ⟨Nat.zero_le _,Nat.zero_le _,rfl⟩ ?_
 rintro ⟨i,w⟩ ⟨hi,hw,he⟩
 have hi1:i < us.length → IntKind.i64.wrap (Int.ofNat i + 1) = Int.ofNat (i + 1) :=fun h => qa2 (m :=i + 1) (by omega)
 conv=>whnf
 by_cases h:i < us.length
 ·refine qaa ((show decide (Int.ofNat i < (us.length:Int)) = true from zT (by show (i:Int) < _;omega))) ?_
  conv=>whnf
  refine qaa (qaf (show i < us.length from h)) ?_
  conv=>whnf
  refine qac (nthP (show nth (tls us) (i * 1) = some (pv (zp (gt us i))) by rw [Nat.mul_one];exact qeb us i h)) ?_
  conv=>whnf
  have h3 :=hx _ (qix us h)
  have hz :=qa9 (gt us i)
  have hw1:IntKind.i64.wrap (Int.ofNat w + ((zp (gt us i)).length:Int)) = Int.ofNat (w + (gt us i).length) :=by rw [hz];exact qa2 (m :=w + (gt us i).length) (by omega)
  rw [qf0 us h,smA] at he
  exact ⟨(i + 1,w + (gt us i).length),⟨h,by show w + (gt us i).length ≤ 3 * (i + 1);omega,he⟩,by show us.length - (i + 1) < us.length - i;omega,(by refine ⟨rfl,rfl,rfl,rfl,?_,?_⟩ <;> repeat' (first | exact congrArg (fun z => some (AV.int .i64 z)) (hi1 h) | exact congrArg (fun z => some (AV.int .i64 z)) hw1 | exact zZ | apply And.intro))⟩
 ·refine qad ((show decide (Int.ofNat i < (us.length:Int)) = false from zF (by show ¬ (i:Int) < _;omega))) ?_
  conv=>whnf
  rw [qcx (l :=us) (by omega),smA] at he
  rw [← he]
  exact ⟨_,rfl,Wk.refl _⟩
theorem qxk {A p q b:Nat} (h1:p < 9223372036854775808) (h2:q < 9223372036854775808):maxI (Int.ofNat A) (maxI (trV p q b) (IntKind.i64.wrap (0 - trV p q b))) = Int.ofNat (max A (absT p q b)) :=by
 have h :=qvm (A :=A) (b :=b) h1 h2
 rw [← h]
 unfold maxI
 repeat' split
 all_goals omega
theorem qfv (us:List (List (Nat × Nat))) (fs:List (Nat × Nat)) (t:Nat) (hl:us.length ≤ fs.length) (h3:fs.length ≤ 3) (hg:∀ u,u ∈ us → gT u) (hf:∀ f,f ∈ fs → f.1 ≤ 50000 ∧ 1 ≤ f.2 ∧ f.2 ≤ 50000) (ht:t ≤ 10000) :
  Pure prog 49 [tlV us,pv (zp fs),nv t] (nv (wrA t 0 fs us)) :=by
 have lu :=qba us
 have lf :=qag (zp fs)
 have hzf :=qa9 fs
 refine zA fun S q pc hS hq hC hE => ?_
 conv=>whnf
 refine qbh hE hS (A :=Nat × Nat) [0,1,2] (fun (i,w) => [(7,nv w),(8,nv i)]) (fun _ => []) (fun (i,w) => i ≤ us.length ∧ wrA t w (fs.drop i) (us.drop i) = wrA t 0 fs us) (fun (i,_) => us.length - i) (0,0) rfl rfl zD ⟨Nat.zero_le _,rfl⟩ ?_
 rintro ⟨i,w⟩ ⟨hi,he⟩
 have hi1:i < us.length → IntKind.i64.wrap (Int.ofNat i + 1) = Int.ofNat (i + 1) :=fun h => qa2 (m :=i + 1) (by omega)
 conv=>whnf
 by_cases h:i < us.length
 ·have hfi:i < fs.length :=by omega
  refine qaa ((show decide (Int.ofNat i < (us.length:Int)) = true from zT (by show (i:Int) < _;omega))) ?_
  conv=>whnf
  refine qaa (qaf (show i < us.length from h)) ?_
  conv=>whnf
  refine qac (nthP (show nth (tls us) (i * 1) = some (pv (zp (gt us i))) by rw [Nat.mul_one];exact qeb us i h)) ?_
  conv=>whnf
  refine qaa (qaf (show i < (zp fs).length by omega)) ?_
  conv=>whnf
  refine qac (takP (qbw fs hfi)) ?_
  conv=>whnf
  have hu :=hg _ (qix us h)
  have hb :=hf _ (qfr fs hfi)
  have b :=qtu (n :=(gq fs i).1) (d :=(gq fs i).2) (t :=t) hb.1 hb.2.2 hu.2.2.bx.2 hu.2.2.by_.2 ht
  refine qab hC (qq9 hu.2.2 (gq fs i).1 (gq fs i).2 t hb.1 hb.2 ht) ?_
  conv=>whnf
  refine zd hS ?_
  conv=>whnf
  rw [qf0 us h,qcc fs hfi,wrA] at he
  have hm:maxI (Int.ofNat w) (maxI (offV (redF (xP (gt us i)) (yP (gt us i))).1 (redF (xP (gt us i)) (yP (gt us i))).2 (gq fs i).1 (gq fs i).2 t) (IntKind.i64.wrap (0 - offV (redF (xP (gt us i)) (yP (gt us i))).1 (redF (xP (gt us i)) (yP (gt us i))).2 (gq fs i).1 (gq fs i).2 t))) = Int.ofNat (max w (wfN t (gq fs i) (gt us i))) :=qxk (by show (redF (xP (gt us i)) (yP (gt us i))).1 * (gq fs i).2 * t * 21600 < _;omega) (by show (gq fs i).1 * (redF (xP (gt us i)) (yP (gt us i))).2 * t * 21600 < _;omega)
  exact ⟨(i + 1,max w (wfN t (gq fs i) (gt us i))),⟨h,he⟩,by show us.length - (i + 1) < us.length - i;omega,(by refine ⟨rfl,rfl,rfl,rfl,?_,?_⟩ <;> repeat' (first | exact congrArg (fun z => some (AV.int .i64 z)) (hi1 h) | exact congrArg (fun z => some (AV.int .i64 z)) hm | exact zZ | apply And.intro))⟩
 ·refine qad ((show decide (Int.ofNat i < (us.length:Int)) = false from zF (by show ¬ (i:Int) < _;omega))) ?_
  conv=>whnf
  rw [qcx (l :=us) (by omega)] at he
  rw [← he,show wrA t w (fs.drop i) [] = w by cases fs.drop i <;> rfl]
  exact ⟨_,rfl,Wk.refl _⟩
theorem qks (a b:List (List (Nat × Nat))) (ha:a.length ≤ 3) (hx:∀ u,u ∈ a → u.length ≤ 3) (hy:∀ u,u ∈ b → u.length ≤ 3):Pure prog 116 [tlV a,tlV b] (.bool (earB a b)) :=by
 have la :=qba a
 have lb :=qba b
 refine zA fun S q pc hS hq hC hE => ?_
 conv=>whnf
 refine qbh hE hS (A :=Nat) [0,1] (fun i => [(5,nv i)]) (fun _ => []) (fun i => i ≤ a.length ∧ earB (a.drop i) (b.drop i) = earB a b) (fun i => a.length - i) 0 rfl rfl zD ⟨Nat.zero_le _,rfl⟩ ?_
 intro i ⟨hi,he⟩
 have hi1:i < a.length → IntKind.i64.wrap (Int.ofNat i + 1) = Int.ofNat (i + 1) :=fun h => qa2 (m :=i + 1) (by omega)
 conv=>whnf
 by_cases h:i < a.length
 ·have c1:decide (Int.ofNat i < (a.length:Int)) = true :=zT (by show (i:Int) < _;omega)
  by_cases h2:i < b.length
  ·have c2:decide (Int.ofNat i < (b.length:Int)) = true :=zT (by show (i:Int) < _;omega)
   have n1 :=(show nth (tls a) (i * 1) = some (pv (zp (gt a i))) by rw [Nat.mul_one];exact qeb a i h)
   have n2 :=(show nth (tls b) (i * 1) = some (pv (zp (gt b i))) by rw [Nat.mul_one];exact qeb b i h2)
   have p1 :=qe4 (gt a i) (gt b i) (by have :=hx _ (qix a h);omega)
   have p2 :=qe4 (gt b i) (gt a i) (by have :=hy _ (qix b h2);omega)
   rw [qf0 a h,qf0 b h2,earB] at he
   by_cases h3:sooB (gt a i) (gt b i) = true
   ·rw [if_pos h3] at he
    rw [h3] at p1
    repeat ((first
     |refine qac (nthP n1) ?_
     |refine qac (nthP n2) ?_
     |refine qam c1 ?_
     |refine qal c1 ?_
     |refine qac (qah c1) ?_
     |refine qaa c1 ?_
     |refine qam c2 ?_
     |refine qal c2 ?_
     |refine qac (qah c2) ?_
     |refine qaa c2 ?_
     |refine qam (qaf h) ?_
     |refine qal (qaf h) ?_
     |refine qac (qah (qaf h)) ?_
     |refine qaa (qaf h) ?_
     |refine qam (qaf h2) ?_
     |refine qal (qaf h2) ?_
     |refine qac (qah (qaf h2)) ?_
     |refine qaa (qaf h2) ?_
     |refine qab hC (p1) ?_
     |refine qab hC (p2) ?_
     |refine zd hS ?_);conv=>whnf)
    rw [← he]
    exact ⟨_,rfl,Wk.refl _⟩
   ·have h3:sooB (gt a i) (gt b i) = false :=Bool.eq_false_iff.2 h3
    rw [h3,if_neg (by decide)] at he
    rw [h3] at p1
    by_cases h4:sooB (gt b i) (gt a i) = true
    ·rw [if_pos h4] at he
     rw [h4] at p2
     repeat ((first
      |refine qac (nthP n1) ?_
      |refine qac (nthP n2) ?_
      |refine qam c1 ?_
      |refine qal c1 ?_
      |refine qac (qah c1) ?_
      |refine qaa c1 ?_
      |refine qam c2 ?_
      |refine qal c2 ?_
      |refine qac (qah c2) ?_
      |refine qaa c2 ?_
      |refine qam (qaf h) ?_
      |refine qal (qaf h) ?_
      |refine qac (qah (qaf h)) ?_
      |refine qaa (qaf h) ?_
      |refine qam (qaf h2) ?_
      |refine qal (qaf h2) ?_
      |refine qac (qah (qaf h2)) ?_
      |refine qaa (qaf h2) ?_
      |refine qab hC (p1) ?_
      |refine qab hC (p2) ?_
      |refine zd hS ?_);conv=>whnf)
     rw [← he]
     exact ⟨_,rfl,Wk.refl _⟩
    ·have h4:sooB (gt b i) (gt a i) = false :=Bool.eq_false_iff.2 h4
     rw [h4,if_neg (by decide)] at he
     rw [h4] at p2
     repeat ((first
      |refine qac (nthP n1) ?_
      |refine qac (nthP n2) ?_
      |refine qam c1 ?_
      |refine qal c1 ?_
      |refine qac (qah c1) ?_
      |refine qaa c1 ?_
      |refine qam c2 ?_
      |refine qal c2 ?_
      |refine qac (qah c2) ?_
      |refine qaa c2 ?_
      |refine qam (qaf h) ?_
      |refine qal (qaf h) ?_
      |refine qac (qah (qaf h)) ?_
      |refine qaa (qaf h) ?_
      |refine qam (qaf h2) ?_
      |refine qal (qaf h2) ?_
      |refine qac (qah (qaf h2)) ?_
      |refine qaa (qaf h2) ?_
      |refine qab hC (p1) ?_
      |refine qab hC (p2) ?_
      |refine zd hS ?_);conv=>whnf)
     exact ⟨i + 1,⟨h,he⟩,by omega,(by refine ⟨rfl,rfl,rfl,rfl,?_,?_⟩ <;> repeat' (first | exact congrArg (fun z => some (AV.int .i64 z)) (hi1 h) | exact zZ | apply And.intro))⟩
  ·have c2:decide (Int.ofNat i < (b.length:Int)) = false :=zF (by show ¬ (i:Int) < _;omega)
   repeat ((first
    |refine qam c1 ?_
    |refine qal c1 ?_
    |refine qac (qah c1) ?_
    |refine qaa c1 ?_
    |refine qaz c2 ?_
    |refine qa0 c2 ?_
    |refine qac (qar c2) ?_
    |refine qad c2 ?_
    |refine zd hS ?_);conv=>whnf)
   rw [qcx (l :=b) (by omega)] at he
   rw [← he,show earB (a.drop i) [] = false by cases a.drop i <;> rfl]
   exact ⟨_,rfl,Wk.refl _⟩
 ·have c1:decide (Int.ofNat i < (a.length:Int)) = false :=zF (by show ¬ (i:Int) < _;omega)
  repeat ((first
   |refine qaz c1 ?_
   |refine qa0 c1 ?_
   |refine qac (qar c1) ?_
   |refine qad c1 ?_
   |refine zd hS ?_);conv=>whnf)
  rw [qcx (l :=a) (by omega)] at he
  rw [← he,show earB [] (b.drop i) = false by rfl]
  exact ⟨_,rfl,Wk.refl _⟩
end
end Go.Abs.Seat
