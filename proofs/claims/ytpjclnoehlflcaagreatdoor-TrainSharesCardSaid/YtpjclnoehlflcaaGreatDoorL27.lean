/-
  The law TrainShares.
-/
import Derived.Test.YtpjclnoehlflcaaGreatDoorT84
import Derived.Test.YtpjclnoehlflcaaGreatDoorU11
import Derived.Test.YtpjclnoehlflcaaGreatDoorL26
namespace Go.Abs.Seat
noncomputable section
open Go Go.Abs Go.Proofs.Tryz
set_option maxRecDepth 100000
set_option maxHeartbeats 40000000
attribute [local irreducible] IntKind.wrap pEq
theorem qq7 (us:Ts) (hl:us.length ≤ 3) (hx:∀ u,u ∈ us → u.length ≤ 3):Pure prog 48 [tlV us,tlV us] (.bool true) :=by
 have lu :=qba us
 have c0:((us.length:Int) != (us.length:Int)) = false :=bne_self_eq_false _
 refine zA fun S q pc hS hq hC hE => ?_
 conv=>whnf
 repeat ((first
  |refine qaz c0 ?_
  |refine qa0 c0 ?_
  |refine qac (qar c0) ?_
  |refine qad c0 ?_
  |refine zd hS ?_);conv=>whnf)
 refine qbh hE hS (A :=Nat) [0,1] (fun i => [(5,nv i)]) (fun _ => []) (fun i => i ≤ us.length) (fun i => us.length - i) 0 rfl rfl zD (Nat.zero_le _) ?_
 intro i hi
 have hi1:i < us.length → IntKind.i64.wrap (Int.ofNat i + 1) = Int.ofNat (i + 1) :=fun h => qa2 (m :=i + 1) (by omega)
 conv=>whnf
 by_cases h:i < us.length
 ·have c1:decide (Int.ofNat i < (us.length:Int)) = true :=zT (by show (i:Int) < _;omega)
  have n1:nth (tls us) (i * 1) = some (pv (zp (gt us i))) :=by rw [Nat.mul_one];exact qeb us i h
  have p :=qrc (gt us i) (gt us i) (by have :=hx _ (qix us h);omega)
  rw [zT rfl] at p
  repeat ((first
   |refine qac (nthP n1) ?_
   |refine qam c1 ?_
   |refine qal c1 ?_
   |refine qac (qah c1) ?_
   |refine qaa c1 ?_
   |refine qam (qaf h) ?_
   |refine qal (qaf h) ?_
   |refine qac (qah (qaf h)) ?_
   |refine qaa (qaf h) ?_
   |refine qab hC (p) ?_
   |refine zd hS ?_);conv=>whnf)
  exact ⟨i + 1,h,by omega,(by refine ⟨rfl,rfl,rfl,rfl,?_,?_⟩ <;> repeat' (first | exact congrArg (fun z => some (AV.int .i64 z)) (hi1 h) | exact zZ | apply And.intro))⟩
 ·have c1:decide (Int.ofNat i < (us.length:Int)) = false :=zF (by show ¬ (i:Int) < _;omega)
  repeat ((first
   |refine qaz c1 ?_
   |refine qa0 c1 ?_
   |refine qac (qar c1) ?_
   |refine qad c1 ?_
   |refine zd hS ?_);conv=>whnf)
  exact ⟨_,rfl,Wk.refl _⟩
theorem qnr (hk:Pure prog 16 [] (.bool true)) {N:AV} {l:List Int} (hN:IL N l) (l8:l.length ≤ 8) (a b p s q t:Int) {Tl:List (Int × Int)} (pw:Pure prog 43 [pv Tl] (.bool true))
  (rR:Pure prog 32 [rv a b p s N] (.bool true)) (rG:Pure prog 45 [pv Tl] (.bool true)) (r1:Pure prog 46 [iv q] (.bool true)) (rM:Pure prog 22 [iv t] (.bool true))
  (pS:Pure prog 44 [rv a b p s N,pv Tl,iv q,iv t] (.tup [.nils,iv 0,iv 5])) (pD:Pure prog 47 [rv a b p s N,pv Tl,iv q,iv t] (.tup [.nils,.bool false])) :
  Pure prog 11 [rv a b p s N,pv Tl,iv q,iv t] (.bool true) :=by
 have lN :=hN.no
 have lT :=qag Tl
 rcases hN.cs with rfl | rfl
 all_goals
  refine zA fun S q pc hS hq hC hE => ?_
  conv=>whnf
  repeat ((first
   |refine qab hC (qcp (by omega)) ?_
   |refine qab hC (pw) ?_
   |refine qab hC (pS) ?_
   |refine qab hC (rR) ?_
   |refine qab hC (rG) ?_
   |refine qab hC (r1) ?_
   |refine qab hC (rM) ?_
   |refine qab hC (pD) ?_
   |refine qab hC (hk) ?_
   |refine zd hS ?_
   |refine qa7 hq true (qbs _ _) ?_
   |rw [beq_self_eq_true]
   |rw [bne_self_eq_false]);conv=>whnf)
  exact ⟨_,rfl,Wk.refl _⟩
theorem qnq (hk:Pure prog 16 [] (.bool true)) {N:AV} {l:List Int} (hN:IL N l) (l8:l.length ≤ 8) (a b p s q t:Int) {Tl:List (Int × Int)} (pw:Pure prog 43 [pv Tl] (.bool true))
  (rR:Pure prog 32 [rv a b p s N] (.bool true)) (rG:Pure prog 45 [pv Tl] (.bool true)) (r1:Pure prog 46 [iv q] (.bool true)) (rM:Pure prog 22 [iv t] (.bool true)) {ls:Ts} {W:Nat}
  (pS:Pure prog 44 [rv a b p s N,pv Tl,iv q,iv t] (.tup [tlV ls,nv W,iv 0])) (pD:Pure prog 47 [rv a b p s N,pv Tl,iv q,iv t] (.tup [tlV ls,.bool true]))
  (pL:Pure prog 48 [tlV ls,tlV ls] (.bool true)) (pW:Pure prog 49 [tlV ls,pv Tl,iv t] (nv W)) :
  Pure prog 11 [rv a b p s N,pv Tl,iv q,iv t] (.bool true) :=by
 have lN :=hN.no
 have lT :=qag Tl
 have lS :=qba ls
 have cW:(Int.ofNat W == Int.ofNat W) = true :=beq_self_eq_true _
 rcases hN.cs with rfl | rfl
 all_goals
  refine zA fun S q pc hS hq hC hE => ?_
  conv=>whnf
  repeat ((first
   |refine qab hC (qcp (by omega)) ?_
   |refine qab hC (pw) ?_
   |refine qab hC (pS) ?_
   |refine qab hC (rR) ?_
   |refine qab hC (rG) ?_
   |refine qab hC (r1) ?_
   |refine qab hC (rM) ?_
   |refine qab hC (pD) ?_
   |refine qab hC (pL) ?_
   |refine qab hC (pW) ?_
   |refine qab hC (hk) ?_
   |refine zd hS ?_
   |refine qa7 hq true (qbs _ _) ?_
   |rw [beq_self_eq_true]
   |rw [bne_self_eq_false]);conv=>whnf)
  repeat ((first
   |refine qam cW ?_
   |refine qal cW ?_
   |refine qac (qah cW) ?_
   |refine qaa cW ?_
   |refine qab hC (pW) ?_
   |refine qab hC (hk) ?_
   |refine zd hS ?_);conv=>whnf)
  exact ⟨_,rfl,Wk.refl _⟩
theorem qsu (hk:Pure prog 16 [] (.bool true)) {N T:AV} {l:List Int} {tl:List (Int × Int)} (hN:IL N l) (l8:l.length ≤ 8) (hT:PQ T tl) (a b p s q t:Int) {bR bG b1 bM:Bool} (pw:Pure prog 43 [T] (.bool true))
  (rR:Pure prog 32 [rv a b p s N] (.bool bR)) (rG:Pure prog 45 [T] (.bool bG)) (r1:Pure prog 46 [iv q] (.bool b1)) (rM:Pure prog 22 [iv t] (.bool bM)) (h:bR = true → bG = true → b1 = true → bM = true → False)
  (pS:Pure prog 44 [rv a b p s N,T,iv q,iv t] (.tup [.nils,iv 0,iv 2])) :
  Pure prog 11 [rv a b p s N,T,iv q,iv t] (.bool true) :=by
 have l0 :=qd4 l
 have l2 :=qag tl
 rcases hN.cs with rfl | rfl <;> rcases hT with ⟨rfl,rfl⟩ | rfl
 all_goals
  cases bR
  ·refine zA fun S q pc hS hq hC hE => ?_
   conv=>whnf
   repeat ((first
    |refine qab hC (qcp (by omega)) ?_
    |refine qab hC (qcp (Nat.zero_le 8)) ?_
    |refine qab hC (pw) ?_
    |refine qab hC (pS) ?_
    |refine qab hC (rR) ?_
    |refine qab hC (rG) ?_
    |refine qab hC (r1) ?_
    |refine qab hC (rM) ?_
    |refine qab hC (hk) ?_
    |refine zd hS ?_
    |refine qa7 hq true (qbs _ _) ?_
    |rw [beq_self_eq_true]
    |rw [bne_self_eq_false]);conv=>whnf)
   exact ⟨_,rfl,Wk.refl _⟩
  ·cases bG
   ·refine zA fun S q pc hS hq hC hE => ?_
    conv=>whnf
    repeat ((first
     |refine qab hC (qcp (by omega)) ?_
     |refine qab hC (qcp (Nat.zero_le 8)) ?_
     |refine qab hC (pw) ?_
     |refine qab hC (pS) ?_
     |refine qab hC (rR) ?_
     |refine qab hC (rG) ?_
     |refine qab hC (r1) ?_
     |refine qab hC (rM) ?_
     |refine qab hC (hk) ?_
     |refine zd hS ?_
     |refine qa7 hq true (qbs _ _) ?_
     |rw [beq_self_eq_true]
     |rw [bne_self_eq_false]);conv=>whnf)
    exact ⟨_,rfl,Wk.refl _⟩
   ·cases b1
    ·refine zA fun S q pc hS hq hC hE => ?_
     conv=>whnf
     repeat ((first
      |refine qab hC (qcp (by omega)) ?_
      |refine qab hC (qcp (Nat.zero_le 8)) ?_
      |refine qab hC (pw) ?_
      |refine qab hC (pS) ?_
      |refine qab hC (rR) ?_
      |refine qab hC (rG) ?_
      |refine qab hC (r1) ?_
      |refine qab hC (rM) ?_
      |refine qab hC (hk) ?_
      |refine zd hS ?_
      |refine qa7 hq true (qbs _ _) ?_
      |rw [beq_self_eq_true]
      |rw [bne_self_eq_false]);conv=>whnf)
     exact ⟨_,rfl,Wk.refl _⟩
    ·cases bM
     ·refine zA fun S q pc hS hq hC hE => ?_
      conv=>whnf
      repeat ((first
       |refine qab hC (qcp (by omega)) ?_
       |refine qab hC (qcp (Nat.zero_le 8)) ?_
       |refine qab hC (pw) ?_
       |refine qab hC (pS) ?_
       |refine qab hC (rR) ?_
       |refine qab hC (rG) ?_
       |refine qab hC (r1) ?_
       |refine qab hC (rM) ?_
       |refine qab hC (hk) ?_
       |refine zd hS ?_
       |refine qa7 hq true (qbs _ _) ?_
       |rw [beq_self_eq_true]
       |rw [bne_self_eq_false]);conv=>whnf)
      exact ⟨_,rfl,Wk.refl _⟩
     ·exact (h rfl rfl rfl rfl).elim
theorem qq4 (hk:Pure prog 16 [] (.bool true)) {N T:AV} {l:List Int} {tl:List (Int × Int)} (hN:IL N l) (hT:PQ T tl) (a b p s q t:Int) {bW:Bool} (pw:Pure prog 43 [T] (.bool bW)) (h:l.length ≤ 8 → bW = true → False) :
  Pure prog 11 [rv a b p s N,T,iv q,iv t] (.bool true) :=by
 have l0 :=qd4 l
 have l2 :=qag tl
 by_cases h8:l.length ≤ 8
 ·obtain rfl:bW = false :=Bool.eq_false_iff.2 (h h8)
  rcases hN.cs with rfl | rfl <;> rcases hT with ⟨rfl,rfl⟩ | rfl
  all_goals
   refine zA fun S q pc hS hq hC hE => ?_
   conv=>whnf
   repeat ((first
    |refine qab hC (qcp (by omega)) ?_
    |refine qab hC (qcp (Nat.zero_le 8)) ?_
    |refine qab hC (pw) ?_
    |refine qab hC (hk) ?_
    |refine zd hS ?_
    |refine qa7 hq true (qbs _ _) ?_
    |rw [beq_self_eq_true]
    |rw [bne_self_eq_false]);conv=>whnf)
   exact ⟨_,rfl,Wk.refl _⟩
 ·rcases hN with ⟨rfl,rfl⟩ | rfl
  ·exact absurd (Nat.zero_le 8) h8
  ·rcases hT with ⟨rfl,rfl⟩ | rfl
   all_goals
    refine zA fun S q pc hS hq hC hE => ?_
    conv=>whnf
    repeat ((first
     |refine qab hC (qv0 (by omega)) ?_
     |refine qab hC (hk) ?_
     |refine zd hS ?_
     |refine qa7 hq true (qbs _ _) ?_
     |rw [beq_self_eq_true]
     |rw [bne_self_eq_false]);conv=>whnf)
    exact ⟨_,rfl,Wk.refl _⟩
theorem qsh {T:AV} {tl:List (Int × Int)} (h:PQ T tl) (hl:tl.length ≤ 5):∃ b,Pure prog 45 [T] (.bool b) ∧ (b = true → T = pv tl ∧ tgOk tl) ∧ (T = pv tl → tgOk tl → b = true) :=by
 rcases h with ⟨rfl,rfl⟩ | rfl
 ·exact ⟨false,qkp,(fun h => nomatch h),fun h => nomatch h⟩
 ·exact ⟨decide (tgOk tl),qko tl (by omega) decide_eq_true_iff,fun h => ⟨rfl,of_decide_eq_true h⟩,fun _ h => zT h⟩
theorem trainShares (hk:Pure prog 16 [] (.bool true)) (a b p s:Int) (hs:-9223372036854775808 ≤ s ∧ s < 9223372036854775808) {N:AV} {l:List Int} (hN:IL N l) {T:AV} {tl:List (Int × Int)} (hT:PQ T tl) (q t:Int) :
  Pure prog 11 [rv a b p s N,T,iv q,iv t] (.bool true) :=by
 obtain ⟨bW,pw,iW⟩ :=q2h hT
 by_cases hall:l.length ≤ 8 ∧ bW = true
 ·obtain ⟨l8,rfl⟩ :=hall
  have t5 :=iW rfl
  obtain ⟨bR,_,rR,eR⟩ :=q0w hN (by omega) a b p s hs
  obtain ⟨bG,rG,eG,nG⟩ :=qsh hT t5
  obtain ⟨b1,r1,i1⟩ :=q1w (qmd q)
  obtain ⟨bM,rM,iM⟩ :=q1w (qme t)
  by_cases hx:bR = true ∧ bG = true ∧ b1 = true ∧ bM = true
  ·obtain ⟨rfl,rfl,rfl,rfl⟩ :=hx
   obtain ⟨rfl,g1⟩ :=eG rfl
   have hq :=i1.1 rfl
   have ht :=iM.1 rfl
   have ho :=eR.1 rfl
   obtain ⟨A,B,P,gs,Q,K,rfl,rfl,rfl,rfl,rfl,rfl,pS⟩ :=qv2 hN (by omega) a b p s hs tl q t ⟨ho,g1.1,g1.2,hq,ht.1,ht.2⟩
   have hq2:(Q:Int) ≤ 9 :=hq.2
   have ht2:(K:Int) ≤ 10000 :=ht.2
   have h13 :=g1.1
   rw [qa9] at h13
   have hgb:∀ f,f ∈ gs → f.1 ≤ 50000 ∧ 1 ≤ f.2 ∧ f.2 ≤ 50000 :=fun f hf => by
    have :=g1.2 (Int.ofNat f.1,Int.ofNat f.2) (List.mem_map.2 ⟨f,hf,rfl⟩)
    have h1:(f.1:Int) ≤ 50000 :=this.1.2
    have h2:1 ≤ (f.2:Int) :=this.2.1
    have h3:(f.2:Int) ≤ 50000 :=this.2.2
    omega
   have ho2 :=ho
   obtain ⟨⟨h1,h2⟩,⟨h3,h4⟩,h5,⟨h6,h7⟩,h8,h9⟩ :=ho2
   have h1:4 ≤ (A:Int) :=h1
   have h4:(B:Int) ≤ 60 :=h4
   have h7:(P:Int) ≤ 3 :=h7
   have htr :=qsg (a :=A) (b :=B) l s (by omega) (by omega) (p :=P) (by omega) hgb
   have pD :=qnt hN (by omega) A B P s ho gs h13 hgb Q K (by omega) (by omega)
   have good :=fun us (h:pckd (trS A B l s) P gs us) => qn4 htr gs us (fun f hf => hf) h
   have memD:∀ x,x ∈ allL (trS A B l s) P [[]] gs ↔ pckd (trS A B l s) P gs x :=fun x => by
    rw [ql0]
    constructor
    ·rintro ⟨y,w,k1,k2,k3⟩
     rw [List.mem_singleton.1 k1] at k3
     rw [k3];exact k2
    ·exact fun h => ⟨[],x,List.mem_singleton.2 rfl,h,rfl⟩
   have hD :=qi0 (q :=Q) (t :=K) (fs :=gs) (allL (trS A B l s) P [[]] gs) none (fun _ h => nomatch h) fun x hx => (good x ((memD x).1 hx)).1
   by_cases hL:srch (trS A B l s) P Q K gs ([],0,0) = []
   ·have e:fldD Q K gs none (allL (trS A B l s) P [[]] gs) = none :=by
     cases ee:fldD Q K gs none (allL (trS A B l s) P [[]] gs) with
     |none => rfl
     |some us =>
      obtain ⟨k1,k2,_,_⟩ :=hD.2 us ee
      have hm:(us,wrA K 0 gs us,smA 0 us) ∈ srch (trS A B l s) P Q K gs ([],0,0) :=(qf4 _ _ _).2 ⟨us,(memD us).1 (k1.resolve_left fun z => nomatch z),k2,rfl⟩
      rw [hL] at hm
      cases hm
    rw [hL] at pS
    rw [e] at pD
    exact qnr hk hN l8 _ _ _ s _ _ pw rR rG r1 rM pS pD
   ·have hbm :=qm9 _ hL
    obtain ⟨ls,k1,k2,k3⟩ :=(qf4 _ _ _).1 hbm
    have hopt :=qvg (srch (trS A B l s) P Q K gs ([],0,0))
    rw [k3] at hopt
    have pS:Pure prog 44 [rv (Int.ofNat A) (Int.ofNat B) (Int.ofNat P) s N,pv (zp gs),nv Q,nv K] (.tup [tlV ls,nv (wrA K 0 gs ls),iv 0]) :=by
     have e:shO (srch (trS A B l s) P Q K gs ([],0,0)) = .tup [tlV ls,nv (wrA K 0 gs ls),iv 0] :=by
      generalize srch (trS A B l s) P Q K gs ([],0,0) = L at *
      cases L with
      |nil => exact absurd rfl hL
      |cons x r => rw [shO,k3];rfl
     rwa [e] at pS
    have gl :=good ls k1
    have e:fldD Q K gs none (allL (trS A B l s) P [[]] gs) = some ls :=by
     cases ee:fldD Q K gs none (allL (trS A B l s) P [[]] gs) with
     |none => exact absurd k2 ((hD.1 ee).2 ls ((memD ls).2 k1))
     |some us =>
      obtain ⟨m1,m2,_,m4⟩ :=hD.2 us ee
      have hu :=(memD us).1 (m1.resolve_left fun z => nomatch z)
      have z1:¬ ordS (keyS K gs us) (keyS K gs ls) < 0 :=hopt _ ((qf4 _ _ _).2 ⟨us,hu,m2,rfl⟩)
      have z2:¬ ordS (keyS K gs ls) (keyS K gs us) < 0 :=m4 ls ((memD ls).2 k1) k2
      have hn :=cmpS.neg (keyS K gs us) (keyS K gs ls)
      have :=(cmpS.eq (keyS K gs us) (keyS K gs ls)).1 (by omega)
      rw [show us = ls from congrArg Prod.fst this]
    rw [e] at pD
    exact qnq hk hN l8 _ _ _ s _ _ pw rR rG r1 rM pS pD (qq7 ls (by omega) fun u hu => (gl.2 u hu).2.1) (qfv ls gs K (by omega) h13.2 gl.2 hgb (by omega))
  ·have pS:Pure prog 44 [rv a b p s N,T,iv q,iv t] (.tup [.nils,iv 0,iv 2]) :=by
    rcases hT with ⟨rfl,rfl⟩ | rfl
    ·exact qf5 hN (by omega) a b p s hs q t
    ·refine qkh hN (by omega) a b p s hs tl (by omega) q t fun z => hx ?_
     obtain ⟨z1,z2,z3,z4,z5⟩ :=z
     exact ⟨eR.2 z1,nG rfl ⟨z2,z3⟩,i1.2 z4,iM.2 z5⟩
   exact qsu hk hN l8 hT a b p s q t pw rR rG r1 rM (fun h1 h2 h3 h4 => hx ⟨h1,h2,h3,h4⟩) pS
 ·exact qq4 hk hN hT a b p s q t pw fun h1 h2 => hall ⟨h1,h2⟩
end
end Go.Abs.Seat
