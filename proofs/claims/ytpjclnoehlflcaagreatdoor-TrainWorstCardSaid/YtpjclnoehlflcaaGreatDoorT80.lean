/-
  The document's order of sharings.
-/
import Derived.Test.YtpjclnoehlflcaaGreatDoorU15
import Derived.Test.YtpjclnoehlflcaaGreatDoorU11
/-! The document's order of sharings. -/
namespace Go.Abs.Seat
noncomputable section
open Go Go.Abs Go.Proofs.Tryz
set_option maxRecDepth 100000
set_option maxHeartbeats 40000000
attribute [local irreducible] IntKind.wrap pEq
def smA:Nat → List (List (Nat × Nat)) → Nat
 |a,[] => a
 |a,u :: r => smA (a + u.length) r
def wrA (t:Nat):Nat → List (Nat × Nat) → List (List (Nat × Nat)) → Nat
 |a,f :: fs,u :: us => wrA t (max a (wfN t f u)) fs us
 |a,_,_ => a
def earB:List (List (Nat × Nat)) → List (List (Nat × Nat)) → Bool
 |u :: a,v :: b => if sooB u v = true then true else if sooB v u = true then false else earB a b
 | _,_ => false
def prfB (t:Nat) (fs:List (Nat × Nat)) (a b:List (List (Nat × Nat))):Bool :=
 if wrA t 0 fs a = wrA t 0 fs b then if smA 0 a = smA 0 b then earB a b else decide (smA 0 a < smA 0 b) else decide (wrA t 0 fs a < wrA t 0 fs b)
def gT (u:List (Nat × Nat)):Prop :=1 ≤ u.length ∧ u.length ≤ 3 ∧ TV (pv (zp u)) u.length (redF (xP u) (yP u)).1 (redF (xP u) (yP u)).2
abbrev tlV (us:List (List (Nat × Nat))):AV :=.lst (tls us) us.length .no
theorem rPairs_pure (us:List (List (Nat × Nat))) (hl:us.length ≤ 3) (hx:∀ u,u ∈ us → u.length ≤ 3):Pure prog 51 [tlV us] (nv (smA 0 us)) :=by
 have lu :=tls_no us
 refine zA fun S q pc hS hq hC hE => ?_
 conv=>whnf
 refine sym_loop hE hS (A :=Nat × Nat) [0] (fun (i,w) => [(3,nv w),(4,nv i)]) (fun _ => []) (fun (i,w) => i ≤ us.length ∧ w ≤ 3 * i ∧ smA w (us.drop i) = smA 0 us) (fun (i,_) => us.length - i) (0,0) rfl rfl zD ⟨Nat.zero_le _,Nat.zero_le _,rfl⟩ ?_
 rintro ⟨i,w⟩ ⟨hi,hw,he⟩
 have hi1:i < us.length → IntKind.i64.wrap (Int.ofNat i + 1) = Int.ofNat (i + 1) :=fun h => wrapN (m :=i + 1) (by omega)
 conv=>whnf
 by_cases h:i < us.length
 ·refine bool_true ((show decide (Int.ofNat i < (us.length:Int)) = true from zT (by show (i:Int) < _;omega))) ?_
  conv=>whnf
  refine bool_true (inR_t (show i < us.length from h)) ?_
  conv=>whnf
  refine plan_as (nthP (show nth (tls us) (i * 1) = some (pv (zp (gt us i))) by rw [Nat.mul_one];exact nth_tls us i h)) ?_
  conv=>whnf
  have h3 :=hx _ (gt_mem us h)
  have hz :=zp_len (gt us i)
  have hw1:IntKind.i64.wrap (Int.ofNat w + ((zp (gt us i)).length:Int)) = Int.ofNat (w + (gt us i).length) :=by rw [hz];exact wrapN (m :=w + (gt us i).length) (by omega)
  rw [drop_gt us h,smA] at he
  exact ⟨(i + 1,w + (gt us i).length),⟨h,by show w + (gt us i).length ≤ 3 * (i + 1);omega,he⟩,by show us.length - (i + 1) < us.length - i;omega,(by refine ⟨rfl,rfl,rfl,rfl,?_,?_⟩ <;> repeat' (first | exact congrArg (fun z => some (AV.int .i64 z)) (hi1 h) | exact congrArg (fun z => some (AV.int .i64 z)) hw1 | exact zZ | apply And.intro))⟩
 ·refine bool_false ((show decide (Int.ofNat i < (us.length:Int)) = false from zF (by show ¬ (i:Int) < _;omega))) ?_
  conv=>whnf
  rw [drop_nil_gt (l :=us) (by omega),smA] at he
  rw [← he]
  exact ⟨_,rfl,Wk.refl _⟩
theorem abs_max2 {A p q b:Nat} (h1:p < 9223372036854775808) (h2:q < 9223372036854775808):maxI (Int.ofNat A) (maxI (trV p q b) (IntKind.i64.wrap (0 - trV p q b))) = Int.ofNat (max A (absT p q b)) :=by
 have h :=abs_max (A :=A) (b :=b) h1 h2
 rw [← h]
 unfold maxI
 repeat' split
 all_goals omega
theorem rWorst_pure (us:List (List (Nat × Nat))) (fs:List (Nat × Nat)) (t:Nat) (hl:us.length ≤ fs.length) (h3:fs.length ≤ 3) (hg:∀ u,u ∈ us → gT u) (hf:∀ f,f ∈ fs → f.1 ≤ 50000 ∧ 1 ≤ f.2 ∧ f.2 ≤ 50000) (ht:t ≤ 10000) :
  Pure prog 49 [tlV us,pv (zp fs),nv t] (nv (wrA t 0 fs us)) :=by
 have lu :=tls_no us
 have lf :=flat_no (zp fs)
 have hzf :=zp_len fs
 refine zA fun S q pc hS hq hC hE => ?_
 conv=>whnf
 refine sym_loop hE hS (A :=Nat × Nat) [0,1,2] (fun (i,w) => [(7,nv w),(8,nv i)]) (fun _ => []) (fun (i,w) => i ≤ us.length ∧ wrA t w (fs.drop i) (us.drop i) = wrA t 0 fs us) (fun (i,_) => us.length - i) (0,0) rfl rfl zD ⟨Nat.zero_le _,rfl⟩ ?_
 rintro ⟨i,w⟩ ⟨hi,he⟩
 have hi1:i < us.length → IntKind.i64.wrap (Int.ofNat i + 1) = Int.ofNat (i + 1) :=fun h => wrapN (m :=i + 1) (by omega)
 conv=>whnf
 by_cases h:i < us.length
 ·have hfi:i < fs.length :=by omega
  refine bool_true ((show decide (Int.ofNat i < (us.length:Int)) = true from zT (by show (i:Int) < _;omega))) ?_
  conv=>whnf
  refine bool_true (inR_t (show i < us.length from h)) ?_
  conv=>whnf
  refine plan_as (nthP (show nth (tls us) (i * 1) = some (pv (zp (gt us i))) by rw [Nat.mul_one];exact nth_tls us i h)) ?_
  conv=>whnf
  refine bool_true (inR_t (show i < (zp fs).length by omega)) ?_
  conv=>whnf
  refine plan_as (takP (tak_zp fs hfi)) ?_
  conv=>whnf
  have hu :=hg _ (gt_mem us h)
  have hb :=hf _ (gq_mem fs hfi)
  have b :=off_le (n :=(gq fs i).1) (d :=(gq fs i).2) (t :=t) hb.1 hb.2.2 hu.2.2.bx.2 hu.2.2.by_.2 ht
  refine sym_pure hC (roff2_pure hu.2.2 (gq fs i).1 (gq fs i).2 t hb.1 hb.2 ht) ?_
  conv=>whnf
  refine zd hS ?_
  conv=>whnf
  rw [drop_gt us h,drop_gq fs hfi,wrA] at he
  have hm:maxI (Int.ofNat w) (maxI (offV (redF (xP (gt us i)) (yP (gt us i))).1 (redF (xP (gt us i)) (yP (gt us i))).2 (gq fs i).1 (gq fs i).2 t) (IntKind.i64.wrap (0 - offV (redF (xP (gt us i)) (yP (gt us i))).1 (redF (xP (gt us i)) (yP (gt us i))).2 (gq fs i).1 (gq fs i).2 t))) = Int.ofNat (max w (wfN t (gq fs i) (gt us i))) :=abs_max2 (by show (redF (xP (gt us i)) (yP (gt us i))).1 * (gq fs i).2 * t * 21600 < _;omega) (by show (gq fs i).1 * (redF (xP (gt us i)) (yP (gt us i))).2 * t * 21600 < _;omega)
  exact ⟨(i + 1,max w (wfN t (gq fs i) (gt us i))),⟨h,he⟩,by show us.length - (i + 1) < us.length - i;omega,(by refine ⟨rfl,rfl,rfl,rfl,?_,?_⟩ <;> repeat' (first | exact congrArg (fun z => some (AV.int .i64 z)) (hi1 h) | exact congrArg (fun z => some (AV.int .i64 z)) hm | exact zZ | apply And.intro))⟩
 ·refine bool_false ((show decide (Int.ofNat i < (us.length:Int)) = false from zF (by show ¬ (i:Int) < _;omega))) ?_
  conv=>whnf
  rw [drop_nil_gt (l :=us) (by omega)] at he
  rw [← he,show wrA t w (fs.drop i) [] = w by cases fs.drop i <;> rfl]
  exact ⟨_,rfl,Wk.refl _⟩
theorem rEarlier_pure (a b:List (List (Nat × Nat))) (ha:a.length ≤ 3) (hx:∀ u,u ∈ a → u.length ≤ 3) (hy:∀ u,u ∈ b → u.length ≤ 3):Pure prog 116 [tlV a,tlV b] (.bool (earB a b)) :=by
 have la :=tls_no a
 have lb :=tls_no b
 refine zA fun S q pc hS hq hC hE => ?_
 conv=>whnf
 refine sym_loop hE hS (A :=Nat) [0,1] (fun i => [(5,nv i)]) (fun _ => []) (fun i => i ≤ a.length ∧ earB (a.drop i) (b.drop i) = earB a b) (fun i => a.length - i) 0 rfl rfl zD ⟨Nat.zero_le _,rfl⟩ ?_
 intro i ⟨hi,he⟩
 have hi1:i < a.length → IntKind.i64.wrap (Int.ofNat i + 1) = Int.ofNat (i + 1) :=fun h => wrapN (m :=i + 1) (by omega)
 conv=>whnf
 by_cases h:i < a.length
 ·have c1:decide (Int.ofNat i < (a.length:Int)) = true :=zT (by show (i:Int) < _;omega)
  by_cases h2:i < b.length
  ·have c2:decide (Int.ofNat i < (b.length:Int)) = true :=zT (by show (i:Int) < _;omega)
   have n1 :=(show nth (tls a) (i * 1) = some (pv (zp (gt a i))) by rw [Nat.mul_one];exact nth_tls a i h)
   have n2 :=(show nth (tls b) (i * 1) = some (pv (zp (gt b i))) by rw [Nat.mul_one];exact nth_tls b i h2)
   have p1 :=rSooner_pure (gt a i) (gt b i) (by have :=hx _ (gt_mem a h);omega)
   have p2 :=rSooner_pure (gt b i) (gt a i) (by have :=hy _ (gt_mem b h2);omega)
   rw [drop_gt a h,drop_gt b h2,earB] at he
   by_cases h3:sooB (gt a i) (gt b i) = true
   ·rw [if_pos h3] at he
    rw [h3] at p1
    repeat ((first
     |refine plan_as (nthP n1) ?_
     |refine plan_as (nthP n2) ?_
     |refine ko_rT c1 ?_
     |refine ko_sF c1 ?_
     |refine plan_as (pick_t c1) ?_
     |refine bool_true c1 ?_
     |refine ko_rT c2 ?_
     |refine ko_sF c2 ?_
     |refine plan_as (pick_t c2) ?_
     |refine bool_true c2 ?_
     |refine ko_rT (inR_t h) ?_
     |refine ko_sF (inR_t h) ?_
     |refine plan_as (pick_t (inR_t h)) ?_
     |refine bool_true (inR_t h) ?_
     |refine ko_rT (inR_t h2) ?_
     |refine ko_sF (inR_t h2) ?_
     |refine plan_as (pick_t (inR_t h2)) ?_
     |refine bool_true (inR_t h2) ?_
     |refine sym_pure hC (p1) ?_
     |refine sym_pure hC (p2) ?_
     |refine zd hS ?_);conv=>whnf)
    rw [← he]
    exact ⟨_,rfl,Wk.refl _⟩
   ·have h3:sooB (gt a i) (gt b i) = false :=Bool.eq_false_iff.2 h3
    rw [h3,if_neg (by decide)] at he
    rw [h3] at p1
    by_cases h4:sooB (gt b i) (gt a i) = true
    ·rw [if_pos h4] at he
     rw [h4] at p2
     repeat ((first
      |refine plan_as (nthP n1) ?_
      |refine plan_as (nthP n2) ?_
      |refine ko_rT c1 ?_
      |refine ko_sF c1 ?_
      |refine plan_as (pick_t c1) ?_
      |refine bool_true c1 ?_
      |refine ko_rT c2 ?_
      |refine ko_sF c2 ?_
      |refine plan_as (pick_t c2) ?_
      |refine bool_true c2 ?_
      |refine ko_rT (inR_t h) ?_
      |refine ko_sF (inR_t h) ?_
      |refine plan_as (pick_t (inR_t h)) ?_
      |refine bool_true (inR_t h) ?_
      |refine ko_rT (inR_t h2) ?_
      |refine ko_sF (inR_t h2) ?_
      |refine plan_as (pick_t (inR_t h2)) ?_
      |refine bool_true (inR_t h2) ?_
      |refine sym_pure hC (p1) ?_
      |refine sym_pure hC (p2) ?_
      |refine zd hS ?_);conv=>whnf)
     rw [← he]
     exact ⟨_,rfl,Wk.refl _⟩
    ·have h4:sooB (gt b i) (gt a i) = false :=Bool.eq_false_iff.2 h4
     rw [h4,if_neg (by decide)] at he
     rw [h4] at p2
     repeat ((first
      |refine plan_as (nthP n1) ?_
      |refine plan_as (nthP n2) ?_
      |refine ko_rT c1 ?_
      |refine ko_sF c1 ?_
      |refine plan_as (pick_t c1) ?_
      |refine bool_true c1 ?_
      |refine ko_rT c2 ?_
      |refine ko_sF c2 ?_
      |refine plan_as (pick_t c2) ?_
      |refine bool_true c2 ?_
      |refine ko_rT (inR_t h) ?_
      |refine ko_sF (inR_t h) ?_
      |refine plan_as (pick_t (inR_t h)) ?_
      |refine bool_true (inR_t h) ?_
      |refine ko_rT (inR_t h2) ?_
      |refine ko_sF (inR_t h2) ?_
      |refine plan_as (pick_t (inR_t h2)) ?_
      |refine bool_true (inR_t h2) ?_
      |refine sym_pure hC (p1) ?_
      |refine sym_pure hC (p2) ?_
      |refine zd hS ?_);conv=>whnf)
     exact ⟨i + 1,⟨h,he⟩,by omega,(by refine ⟨rfl,rfl,rfl,rfl,?_,?_⟩ <;> repeat' (first | exact congrArg (fun z => some (AV.int .i64 z)) (hi1 h) | exact zZ | apply And.intro))⟩
  ·have c2:decide (Int.ofNat i < (b.length:Int)) = false :=zF (by show ¬ (i:Int) < _;omega)
   repeat ((first
    |refine ko_rT c1 ?_
    |refine ko_sF c1 ?_
    |refine plan_as (pick_t c1) ?_
    |refine bool_true c1 ?_
    |refine ko_sT c2 ?_
    |refine ko_rF c2 ?_
    |refine plan_as (pick_f c2) ?_
    |refine bool_false c2 ?_
    |refine zd hS ?_);conv=>whnf)
   rw [drop_nil_gt (l :=b) (by omega)] at he
   rw [← he,show earB (a.drop i) [] = false by cases a.drop i <;> rfl]
   exact ⟨_,rfl,Wk.refl _⟩
 ·have c1:decide (Int.ofNat i < (a.length:Int)) = false :=zF (by show ¬ (i:Int) < _;omega)
  repeat ((first
   |refine ko_sT c1 ?_
   |refine ko_rF c1 ?_
   |refine plan_as (pick_f c1) ?_
   |refine bool_false c1 ?_
   |refine zd hS ?_);conv=>whnf)
  rw [drop_nil_gt (l :=a) (by omega)] at he
  rw [← he,show earB [] (b.drop i) = false by rfl]
  exact ⟨_,rfl,Wk.refl _⟩
end
end Go.Abs.Seat
