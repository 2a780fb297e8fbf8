/-
  Sharing pairs: the walk of Share.
-/
import Derived.Test.YtpjclnoehlflcaaGreatDoorU17
import Derived.Test.YtpjclnoehlflcaaGreatDoorU15
namespace Go.Abs.Seat
noncomputable section
open Go Go.Abs Go.Proofs.Tryz
set_option maxRecDepth 100000
set_option maxHeartbeats 40000000
attribute [local irreducible] IntKind.wrap pEq
theorem qq5 {N:AV} {l:List Int} (hN:IL N l) (hl:l.length < 4611686018427387904) (a b:Nat) (ha:4 ≤ a) (hab:a ≤ b) (hb:b ≤ 60) (s:Int) (hs:1 ≤ s ∧ s ≤ 3) (p:Nat) (hp:1 ≤ p ∧ p ≤ 3) (pr:Pure prog 82 [rv (Int.ofNat a) (Int.ofNat b) (Int.ofNat p) s N] (.bool true))
  (fs:List (Nat × Nat)) (hf:1 ≤ fs.length ∧ fs.length ≤ 3) (hfb:∀ f,f ∈ fs → f.1 ≤ 50000 ∧ 1 ≤ f.2 ∧ f.2 ≤ 50000) (qq:Nat) (hq9:1 ≤ qq ∧ qq ≤ 9) (t:Nat) (ht:t ≤ 10000) :
  Pure prog 44 [rv (Int.ofNat a) (Int.ofNat b) (Int.ofNat p) s N,pv (zp fs),nv qq,nv t] (shO (srch (trS a b l s) p qq t fs ([],0,0))) :=by
 have lN :=hN.no
 have lR :=q0u (srch (trS a b l s) p qq t fs ([],0,0))
 have lf :=qag (zp fs)
 have lz:(zp fs).length = fs.length :=qa9 fs
 have pi:Pure prog 103 [.int .i64 ((zp fs).length:Int),iv 1,iv 3] (.bool true) :=inX ⟨fun _ => by rw [lz];omega,fun _ => rfl⟩
 have pb:Pure prog 104 [pv (zp fs),.func (.func 105) [] []] (.bool false) :=qhf (zp fs) (by rw [lz];omega) ⟨fun z => (nomatch z),fun z => absurd (fun x hx => by
  obtain ⟨f,h1,h2⟩ :=List.mem_map.1 hx
  have h3 :=hfb f h1
  rw [← h2]
  exact q17 h3.1 h3.2.1 h3.2.2) z⟩
 have pq:Pure prog 103 [nv qq,iv 1,iv 9] (.bool true) :=inX ⟨fun _ => by show (1:Int) ≤ (qq:Int) ∧ (qq:Int) ≤ 9;omega,fun _ => rfl⟩
 have pt:Pure prog 67 [nv t] (.bool true) :=by
  have :=qiu (Int.ofNat t)
  rwa [zT (show 0 ≤ Int.ofNat t ∧ Int.ofNat t ≤ 10000 from ⟨Int.natCast_nonneg t,by show (t:Int) ≤ 10000;omega⟩)] at this
 obtain ⟨tr,htr⟩ : ∃ tr,tr = trS a b l s :=⟨_,rfl⟩
 have hT :=qsg (p :=p) l s ha hb hp.2 hfb
 rw [← htr] at hT
 have lm:∀ L:List Ent,BdE 0 (mbe L) :=qgb 0
 rcases hN.cs with rfl | rfl
 all_goals
  refine zA fun S q pc hS hq hC hE => ?_
  conv=>whnf
  repeat ((first
   |refine qab hC (pr) ?_
   |refine qab hC (pi) ?_
   |refine qab hC (pb) ?_
   |refine qab hC (pq) ?_
   |refine qab hC (pt) ?_
   |refine zd hS ?_);conv=>whnf)
  refine qbe hE hS (A :=Nat × List Ent) [4,5,6,7,8,9,10,11] (fun (k,_) => [(12,nv (k + 1))]) (fun (_,L) => [(4,.mapo (mbe L))]) (fun _ => []) (fun (k,L) => k ≤ p ∧ L = insN tr fs k) (fun (k,_) => p - k) (0,[]) (Nat.le_of_ble_eq_true rfl) rfl (by refine ⟨rfl,rfl,rfl,rfl,rfl,rfl,6,rfl,?_,?_⟩ <;> repeat' (first | exact qaj (qag _) | exact qgb _ _ | exact zZ | apply And.intro)) ⟨Nat.zero_le _,rfl⟩ ?_
  intro (k,L) ⟨hk,hL⟩ M hM
  obtain rfl:M = 6 :=hM
  have e8:IntKind.i64.wrap (Int.ofNat (k + 1) + 1) = Int.ofNat (k + 1 + 1) :=qa2 (m :=k + 1 + 1) (by omega)
  conv=>whnf
  by_cases hk2:k < p
  ·have c1:decide (Int.ofNat (k + 1) ≤ Int.ofNat p) = true :=zT (by show ((k + 1:Nat):Int) ≤ (p:Int);omega)
   obtain ⟨T,Sx,kx,Mx,jx,hsh,lS,lM,pu,pp,pn⟩ :=qwd hN hl a b ha hab hb s hs (k + 1) ⟨by omega,by omega⟩
   have hLk :=qoi (tr :=tr) fs k
   rw [← hL] at hLk
   rcases hsh with rfl | ⟨tx,ix,rfl,ltx⟩
   all_goals
    repeat ((first
     |refine qam c1 ?_
     |refine qal c1 ?_
     |refine qac (qah c1) ?_
     |refine qaa c1 ?_
     |refine qab hC (pu) ?_
     |refine qab hC (pp) ?_
     |refine zd hS ?_);conv=>whnf)
    refine qbe hE hS (A :=Nat × List Ent) [4,5,6,7,8,9,10,11,12,14,62,63] (fun (j,_) => [(64,nv j)]) (fun (_,L) => [(4,.mapo (mbe L))]) (fun _ => []) (fun (j,L') => j ≤ fs.length ∧ L' = insF tr (k + 1) (fs.take j) L) (fun (j,_) => fs.length - j) (0,L) (Nat.le_of_ble_eq_true rfl) rfl (by refine ⟨rfl,rfl,rfl,rfl,rfl,rfl,8,rfl,?_,?_⟩ <;> repeat' (first | exact qaj (qag _) | exact qgb _ _ | exact zZ | apply And.intro)) ⟨Nat.zero_le _,rfl⟩ ?_
    intro (j,L') ⟨hj,hL'⟩ M hM
    obtain rfl:M = 8 :=hM
    have e64:IntKind.i64.wrap (Int.ofNat j + 1) = Int.ofNat (j + 1) :=qa2 (m :=j + 1) (by omega)
    conv=>whnf
    by_cases hj2:j < fs.length
    ·have c2:decide (Int.ofNat j < ((zp fs).length:Int)) = true :=zT (by rw [lz];show (j:Int) < _;omega)
     have hg :=qfr fs hj2
     have hgb :=hfb _ hg
     have pn1 :=pn (gq fs j).1 (gq fs j).2 hgb.1 hgb.2
     have hL1 :=qoj (n :=k + 1) (fs.take j) hLk.1
     rw [← hL'] at hL1
     have ir:j < (zp fs).length :=by rw [lz];exact hj2
     obtain ⟨o,ho⟩ : ∃ o,tr (k + 1) (gq fs j) = o :=⟨_,rfl⟩
     rw [show nrT (tp a b l) (k + 1) (qav s) (gq fs j).1 (gq fs j).2 = o by rw [← ho,htr]] at pn1
     have hst:insF tr (k + 1) (fs.take (j + 1)) L = insE tr (k + 1) (gq fs j) L' :=by rw [qvy fs hj2,qmw,← hL']
     rcases o with _ | u
     ·have hI:L' = insF tr (k + 1) (fs.take (j + 1)) L :=by rw [hst,insE,ho]
      repeat ((first
       |refine qam c2 ?_
       |refine qal c2 ?_
       |refine qac (qah c2) ?_
       |refine qaa c2 ?_
       |refine qam (qaf ir) ?_
       |refine qal (qaf ir) ?_
       |refine qac (qah (qaf ir)) ?_
       |refine qaa (qaf ir) ?_
       |refine zd hS ?_);conv=>whnf)
      refine qac (takP (qbw fs hj2)) ?_
      conv=>whnf
      repeat ((first
       |refine qab hC (pn1) ?_
       |refine zd hS ?_);conv=>whnf)
      exact ⟨(j + 1,L'),⟨hj2,hI⟩,by show fs.length - (j + 1) < fs.length - j;omega,Nat.le_refl _,(by refine ⟨rfl,rfl,rfl,rfl,rfl,rfl,8,rfl,?_,?_⟩ <;> repeat' (first | exact ⟨_,rfl,WkV.int e64⟩ | exact qaj (qag _) | exact qgb _ _ | exact zZ | apply And.intro))⟩
     ·have hu0:u ≠ [] :=fun z => by have :=(hT.tv _ _ _ (by omega) (by omega) hg ho).1;rw [z] at this;exact absurd this (by decide)
      rw [show fV (some u) = .tup [pv (zp u),.bool true] by
       cases u with
       |nil => exact absurd rfl hu0
       |cons z r => rfl] at pn1
      have lu :=qag (zp u)
      by_cases hm:((k + 1,gq fs j),u) ∈ L'
      ·have hI:L' = insF tr (k + 1) (fs.take (j + 1)) L :=by rw [hst,insE,ho];simp only [if_pos hm]
       repeat ((first
        |refine qam c2 ?_
        |refine qal c2 ?_
        |refine qac (qah c2) ?_
        |refine qaa c2 ?_
        |refine qam (qaf ir) ?_
        |refine qal (qaf ir) ?_
        |refine qac (qah (qaf ir)) ?_
        |refine qaa (qaf ir) ?_
        |refine zd hS ?_);conv=>whnf)
       refine qac (takP (qbw fs hj2)) ?_
       conv=>whnf
       repeat ((first
        |refine qab hC (pn1) ?_
        |refine zd hS ?_);conv=>whnf)
       refine qac (q11 hm fun w hw => by have :=hL1.1 _ _ _ hw;rw [ho] at this;injection this with this;exact this.symm) ?_
       conv=>whnf
       exact ⟨(j + 1,L'),⟨hj2,hI⟩,by show fs.length - (j + 1) < fs.length - j;omega,Nat.le_refl _,(by refine ⟨rfl,rfl,rfl,rfl,rfl,rfl,8,rfl,?_,?_⟩ <;> repeat' (first | exact ⟨_,rfl,WkV.int e64⟩ | exact qaj (qag _) | exact qgb _ _ | exact zZ | apply And.intro))⟩
      ·have hI:L' ++ [((k + 1,gq fs j),u)] = insF tr (k + 1) (fs.take (j + 1)) L :=by rw [hst,insE,ho];simp only [if_neg hm]
       repeat ((first
        |refine qam c2 ?_
        |refine qal c2 ?_
        |refine qac (qah c2) ?_
        |refine qaa c2 ?_
        |refine qam (qaf ir) ?_
        |refine qal (qaf ir) ?_
        |refine qac (qah (qaf ir)) ?_
        |refine qaa (qaf ir) ?_
        |refine zd hS ?_);conv=>whnf)
       refine qac (takP (qbw fs hj2)) ?_
       conv=>whnf
       repeat ((first
        |refine qab hC (pn1) ?_
        |refine zd hS ?_);conv=>whnf)
       refine qac (q12 (k :=(k + 1,gq fs j)) (u :=u) (l :=L') fun w hw => by have h :=hL1.1 _ _ _ hw;rw [ho] at h;injection h with h;exact hm (by rw [h];exact hw)) ?_
       conv=>whnf
       exact ⟨(j + 1,L' ++ [((k + 1,gq fs j),u)]),⟨hj2,hI⟩,by show fs.length - (j + 1) < fs.length - j;omega,Nat.le_refl _,(by refine ⟨rfl,rfl,rfl,rfl,rfl,rfl,8,rfl,?_,?_⟩ <;> repeat' (first | exact ⟨_,rfl,WkV.int e64⟩ | exact qaj (qag _) | exact qgb _ _ | exact zZ | apply And.intro))⟩
    ·have c2:decide (Int.ofNat j < ((zp fs).length:Int)) = false :=zF (by rw [lz];show ¬ (j:Int) < _;omega)
     have hI:L' = insN tr fs (k + 1) :=by rw [hL',List.take_of_length_le (by omega),hL];rfl
     repeat ((first
      |refine qaz c2 ?_
      |refine qa0 c2 ?_
      |refine qac (qar c2) ?_
      |refine qad c2 ?_
      |refine zd hS ?_);conv=>whnf)
     refine .inl ?_
     conv=>whnf
     exact ⟨(k + 1,L'),⟨hk2,hI⟩,by show p - (k + 1) < p - k;omega,Nat.le_refl _,(by refine ⟨rfl,rfl,rfl,rfl,rfl,rfl,6,rfl,?_,?_⟩ <;> repeat' (first | exact ⟨_,rfl,WkV.int e8⟩ | exact qaj (qag _) | exact qgb _ _ | exact zZ | apply And.intro))⟩
  ·have c1:decide (Int.ofNat (k + 1) ≤ Int.ofNat p) = false :=zF (by show ¬ ((k + 1:Nat):Int) ≤ (p:Int);omega)
   have hkp:k = p :=by omega
   subst hkp
   have hK :=qwr (tr :=tr) fs k
   rw [← hL] at hK
   have hS1 :=qvz (a :=Int.ofNat a) (b :=Int.ofNat b) (s :=s) (P :=k) (by omega) (pairs :=qq) (t :=t) (qgb 8 L) lN hK hT ht (by omega) hf.2 (fun z => by rw [z] at hf;exact absurd hf.1 (by decide)) fs ([],0,0) [] (Nat.zero_add _) rfl (by
    have:3 ^ fs.length ≤ 3 ^ 3 :=Nat.pow_le_pow_right (by decide) hf.2
    show 0 + 3 ^ fs.length ≤ 1000
    omega)
   rw [List.nil_append,htr] at hS1
   have hx :=qpc (q :=qq) (t :=t) hT fs ([],0,0) (fun _ z => z) (fun _ z => (nomatch z))
   have hcnt :=qkf tr qq t (P :=k) (by omega) fs ([],0,0)
   rw [htr] at hx hcnt
   generalize srch (trS a b l s) k qq t fs ([],0,0) = R at *
   repeat ((first
    |refine qaz c1 ?_
    |refine qa0 c1 ?_
    |refine qac (qar c1) ?_
    |refine qad c1 ?_
    |refine zd hS ?_);conv=>whnf)
   refine .inl ?_
   conv=>whnf
   rcases R with _ | ⟨x,R⟩
   ·refine qat hC ?_
    conv=>whnf
    refine qct hS hS1 (by exact Nat.le_of_ble_eq_true rfl) (by repeat' (first | exact trivial | exact .inl rfl | exact .inr rfl | apply And.intro)) rfl ?_
    conv=>whnf
    repeat ((first
     |refine qab hC (qr4) ?_
     |refine zd hS ?_);conv=>whnf)
    exact ⟨_,rfl,Wk.refl _⟩
   ·refine qat hC ?_
    conv=>whnf
    have ls :=qdi (x :: R)
    have hxm :=qm9 (x :: R) (fun z => (nomatch z))
    have hbX :=q0j (x :: R) 8 (fun z => (nomatch z)) (Nat.lt_of_le_of_lt hcnt (by have:3 ^ fs.length ≤ 3 ^ 3 :=Nat.pow_le_pow_right (by decide) hf.2;omega)) (fun y hy => ⟨by have h1 :=(hx y hy).1;have h2:y.1.length = 0 + fs.length :=h1;omega,fun u hu => by have :=(hx y hy).2 u hu;omega⟩)
    have hX1 :=hx _ hxm
    have hw:∀ v:AV,(∃ X,X = qc2 (x :: R) ∧ Wk v (.tup [.lst (tls X.1) X.1.length .no,nv X.2.1,iv 0])) → Wk v (shO (x :: R)) :=by
     rintro v ⟨X,rfl,h⟩;exact h
    generalize qc2 (x :: R) = X at hbX hX1 hw
    obtain ⟨X1,X2,X3⟩ :=X
    have hXl:X1.length = fs.length :=by have h1:X1.length = 0 + fs.length :=hX1.1;omega
    have hXu:∀ u,u ∈ X1 → u ≠ [] ∧ u.length ≤ 3 :=fun u hu => ⟨fun z => by have :=(hX1.2 u hu).1;rw [z] at this;exact absurd this (by decide),(hX1.2 u hu).2⟩
    clear hX1
    refine qcs hS hS1 (by exact Nat.le_of_ble_eq_true rfl) (by exact Nat.le_of_ble_eq_true rfl) (by repeat' (first | exact trivial | exact .inl rfl | exact .inr rfl | apply And.intro)) rfl rfl rfl ?_
    conv=>whnf
    rcases X1 with _ | ⟨u1,_ | ⟨u2,_ | ⟨u3,_ | ⟨u4,r⟩⟩⟩⟩
    ·exact absurd hXl (by show ¬ 0 = fs.length;omega)
    rotate_left 3
    ·exact absurd hXl (by simp only [List.length_cons];omega)
    ·have k1 :=hXu u1 (by simp)
     have p1 :=qdo u1 k1.1 k1.2
     have f1 :=qag (zp u1)
     refine qbp hC (hbX) ?_
     conv=>whnf
     refine qae hE hS ?_
     conv=>whnf
     repeat ((first
      |refine qab hC (p1) ?_
      |refine zd hS ?_);conv=>whnf)
     refine qa1 95 rfl (congrArg (AV.int .i64) (show IntKind.i64.wrap (0 + 1) = 1 from qas (by decide) (by decide))) ?_
     refine qae hE hS ?_
     conv=>whnf
     refine zd hS ?_
     conv=>whnf
     refine ⟨_,rfl,hw _ ⟨_,rfl,qjj (WkV.own _ _ _).wk⟩⟩
    ·have k1 :=hXu u1 (by simp)
     have p1 :=qdo u1 k1.1 k1.2
     have f1 :=qag (zp u1)
     have k2 :=hXu u2 (by simp)
     have p2 :=qdo u2 k2.1 k2.2
     have f2 :=qag (zp u2)
     refine qbp hC (hbX) ?_
     conv=>whnf
     refine qae hE hS ?_
     conv=>whnf
     repeat ((first
      |refine qab hC (p1) ?_
      |refine zd hS ?_);conv=>whnf)
     refine qa1 95 rfl (congrArg (AV.int .i64) (show IntKind.i64.wrap (0 + 1) = 1 from qas (by decide) (by decide))) ?_
     refine qae hE hS ?_
     conv=>whnf
     repeat ((first
      |refine qab hC (p2) ?_
      |refine zd hS ?_);conv=>whnf)
     refine qa1 95 rfl (congrArg (AV.int .i64) (show IntKind.i64.wrap (1 + 1) = 2 from qas (by decide) (by decide))) ?_
     refine qae hE hS ?_
     conv=>whnf
     refine zd hS ?_
     conv=>whnf
     refine ⟨_,rfl,hw _ ⟨_,rfl,qjj (WkV.own _ _ _).wk⟩⟩
    ·have k1 :=hXu u1 (by simp)
     have p1 :=qdo u1 k1.1 k1.2
     have f1 :=qag (zp u1)
     have k2 :=hXu u2 (by simp)
     have p2 :=qdo u2 k2.1 k2.2
     have f2 :=qag (zp u2)
     have k3 :=hXu u3 (by simp)
     have p3 :=qdo u3 k3.1 k3.2
     have f3 :=qag (zp u3)
     refine qbp hC (hbX) ?_
     conv=>whnf
     refine qae hE hS ?_
     conv=>whnf
     repeat ((first
      |refine qab hC (p1) ?_
      |refine zd hS ?_);conv=>whnf)
     refine qa1 95 rfl (congrArg (AV.int .i64) (show IntKind.i64.wrap (0 + 1) = 1 from qas (by decide) (by decide))) ?_
     refine qae hE hS ?_
     conv=>whnf
     repeat ((first
      |refine qab hC (p2) ?_
      |refine zd hS ?_);conv=>whnf)
     refine qa1 95 rfl (congrArg (AV.int .i64) (show IntKind.i64.wrap (1 + 1) = 2 from qas (by decide) (by decide))) ?_
     refine qae hE hS ?_
     conv=>whnf
     repeat ((first
      |refine qab hC (p3) ?_
      |refine zd hS ?_);conv=>whnf)
     refine qa1 95 rfl (congrArg (AV.int .i64) (show IntKind.i64.wrap (2 + 1) = 3 from qas (by decide) (by decide))) ?_
     refine qae hE hS ?_
     conv=>whnf
     refine zd hS ?_
     conv=>whnf
     refine ⟨_,rfl,hw _ ⟨_,rfl,qjj (WkV.own _ _ _).wk⟩⟩
end
end Go.Abs.Seat
