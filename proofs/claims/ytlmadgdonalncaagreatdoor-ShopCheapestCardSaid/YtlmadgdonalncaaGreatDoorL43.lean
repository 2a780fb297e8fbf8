/-
  The law ShopCheapest.
-/
import Derived.Test.YtlmadgdonalncaaGreatDoorU20
import Derived.Test.YtlmadgdonalncaaGreatDoorL42
import Derived.Test.YtlmadgdonalncaaGreatDoorU21
namespace Go.Abs.Seat
noncomputable section
open Go Go.Abs Go.Proofs.Tryz
set_option maxRecDepth 100000
set_option maxHeartbeats 40000000
attribute [local irreducible] IntKind.wrap pEq
theorem qu7 {J:List LkI} (hJ:areJ J) (P:List Int) (i:Int):∀ k,k ≤ J.length → hsD J P i k ≤ k * 40
 | 0,_ => Nat.le_refl _
 |k + 1,h => by
  have ih :=qu7 hJ P i k (by omega)
  have :=(hJ.2 k h).1
  rw [hsD]
  split <;> omega
theorem shopCheapest (known:Pure prog 13 [] (.bool true)) {x y h:AV} {W J:List LkI} {P:List Int} (hx:LL x W) (hy:LL y J) (hh:IL h P):Pure prog 6 [x,y,h] (.bool true) :=by
 have lx :=hx.no
 have ly :=hy.no
 have lh :=hh.no
 have pF :=qk4 hx hy hh
 by_cases f:fewP W J P
 rotate_left
 ·have cf:(!decide (fewP W J P)) = true :=nt_f (decide_eq_false f)
  rcases hx with ⟨rfl,_⟩ | rfl <;> rcases hy with ⟨rfl,_⟩ | rfl <;> rcases hh with ⟨rfl,_⟩ | rfl
  all_goals
   refine qar hE rfl (by repeat' first|exact trivial|assumption|exact qag _|exact fun _ h => nomatch h|apply And.intro) (by repeat' first|exact trivial|assumption|exact qag _|exact fun _ h => nomatch h|apply And.intro) fun S q pc hS hq hC hE => ?_
   conv => whnf
   repeat ((first|refine qai cf ?_|refine qah cf ?_|refine pkT cf ?_|refine qaa cf ?_|refine qao (gft cf) ?_|refine qap (gft cf) ?_|refine pkF (gft cf) ?_|refine qac (gft cf) ?_|refine qab hC (pF) ?_|refine qab hC (known) ?_|refine qae hS (by kernel_rfl) ?_);conv => whnf)
   exact ⟨_,rfl,Wk.refl _⟩
 have cf:(!decide (fewP W J P)) = false :=nt_t (decide_eq_true f)
 have pS :=qij hx hy f.1 f.2.1
 by_cases s:areW W ∧ areJ J
 rotate_left
 ·have cs:(!decide (areW W ∧ areJ J)) = true :=nt_f (decide_eq_false s)
  rcases hx with ⟨rfl,_⟩ | rfl <;> rcases hy with ⟨rfl,_⟩ | rfl <;> rcases hh with ⟨rfl,_⟩ | rfl
  all_goals
   refine qar hE rfl (by repeat' first|exact trivial|assumption|exact qag _|exact fun _ h => nomatch h|apply And.intro) (by repeat' first|exact trivial|assumption|exact qag _|exact fun _ h => nomatch h|apply And.intro) fun S q pc hS hq hC hE => ?_
   conv => whnf
   repeat ((first|refine qai ‹_› ?_|refine qah ‹_› ?_|refine pkT ‹_› ?_|refine qaa ‹_› ?_|refine qao ‹_› ?_|refine qap ‹_› ?_|refine pkF ‹_› ?_|refine qac ‹_› ?_|refine qai (gff ‹_›) ?_|refine qah (gff ‹_›) ?_|refine pkT (gff ‹_›) ?_|refine qaa (gff ‹_›) ?_|refine qao (gft ‹_›) ?_|refine qap (gft ‹_›) ?_|refine pkF (gft ‹_›) ?_|refine qac (gft ‹_›) ?_|refine qab hC (pF) ?_|refine qab hC (pS) ?_|refine qab hC (known) ?_|refine qae hS (by kernel_rfl) ?_);conv => whnf)
   exact ⟨_,rfl,Wk.refl _⟩
 have cs:(!decide (areW W ∧ areJ J)) = false :=nt_t (decide_eq_true s)
 obtain ⟨hW,hJ⟩ :=s
 obtain rfl :=quq hx hW.1.1
 obtain rfl :=quq hy hJ.1.1
 have lW :=qay W
 have lJ :=qay J
 have pI :=qgk (W :=W) (J :=J) hh hW.1 hJ.1.1 f.2.2
 by_cases c:isPl W J P
 rotate_left
 ·have ci:(!decide (isPl W J P)) = true :=nt_f (decide_eq_false c)
  rcases hh with ⟨rfl,_⟩ | rfl
  all_goals
   refine qar hE rfl (by repeat' first|exact trivial|assumption|exact qag _|exact fun _ h => nomatch h|apply And.intro) (by repeat' first|exact trivial|assumption|exact qag _|exact fun _ h => nomatch h|apply And.intro) fun S q pc hS hq hC hE => ?_
   conv => whnf
   repeat ((first|refine qai ‹_› ?_|refine qah ‹_› ?_|refine pkT ‹_› ?_|refine qaa ‹_› ?_|refine qao ‹_› ?_|refine qap ‹_› ?_|refine pkF ‹_› ?_|refine qac ‹_› ?_|refine qai (gff ‹_›) ?_|refine qah (gff ‹_›) ?_|refine pkT (gff ‹_›) ?_|refine qaa (gff ‹_›) ?_|refine qab hC (pF) ?_|refine qab hC (pS) ?_|refine qab hC (pI) ?_|refine qab hC (known) ?_|refine qae hS (by kernel_rfl) ?_);conv => whnf)
   exact ⟨_,rfl,Wk.refl _⟩
 have ci:(!decide (isPl W J P)) = false :=nt_t (decide_eq_true c)
 have hP:h = nl P :=by
  rcases hh with ⟨_,rfl⟩ | hh
  ·have:(0:Nat) = J.length :=c.1
   have :=hJ.1.1
   omega
  ·exact hh
 subst hP
 have lP :=qat P
 have lD :=qat (dnL W J P)
 have pP :=qii hW hJ
 have pD :=qjd hW hJ c
 have hDl:(dnL W J P).length = J.length :=qcw W J P J.length
 have hJ6 :=hJ.1.2
 have hW3 :=hW.1.2
 have hl :=c.1
 have pT :=qgn (J :=J) (D :=dnL W J P) hDl (by omega) (qyw hW hJ c)
 have b1:((dnL W J P).length != J.length) = false :=by rw [hDl];exact bne_self_eq_false _
 have b1':(Int.ofNat (dnL W J P).length != Int.ofNat J.length) = false :=by rw [hDl];exact bne_self_eq_false _
 have hfit :=fun i (hi:i < W.length) => qll hW hJ c hi
 have hgd :=fun k (hk:k < J.length) => qev W J P (n :=J.length) hk
 have hsb :=fun (i:Nat) k hk => qu7 hJ P (Int.ofNat i) k hk
 cases hB:qex W J with
 |none =>
  rw [hB] at pP
  have pP:Pure prog 25 [lkA W,lkA J] (.tup [.nils,iv 0,iv 5]) :=pP
  have lp :=qat []
  refine qar hE rfl (by repeat' first|exact trivial|assumption|exact qag _|exact fun _ h => nomatch h|apply And.intro) (by repeat' first|exact trivial|assumption|exact qag _|exact fun _ h => nomatch h|apply And.intro) fun S q pc hS hq hC hE => ?_
  conv => whnf
  try have z276:=b1'
  repeat ((first|refine qai ‹_› ?_|refine qah ‹_› ?_|refine pkT ‹_› ?_|refine qaa ‹_› ?_|refine qao ‹_› ?_|refine qap ‹_› ?_|refine pkF ‹_› ?_|refine qac ‹_› ?_|refine qai (gff ‹_›) ?_|refine qah (gff ‹_›) ?_|refine pkT (gff ‹_›) ?_|refine qaa (gff ‹_›) ?_|refine qab hC (pF) ?_|refine qab hC (pS) ?_|refine qab hC (pI) ?_|refine qab hC (pP) ?_|refine qab hC (pD) ?_|refine qab hC (pT) ?_|refine qae hS (by kernel_rfl) ?_);conv => whnf)
  refine qaz hE hS (A :=Nat) [0,1,2,7,8,9,10,11,12,13] (fun i => [(14,nv i)]) (fun _ => []) (fun _ => []) (fun i => i ≤ W.length) (fun i => W.length - i) 0 (Nat.zero_le _) rfl (by refine ⟨rfl,rfl,rfl,rfl,rfl,rfl,0,rfl,?_,?_⟩ <;> repeat' (first|exact trivial|exact rfl|exact wkr rfl|exact wko rfl|exact Nat.zero_le _|exact qad lW|exact qad lJ|exact qad lP|exact qad lD|exact qad lp|exact kle rfl|exact bdq|exact mxI rfl|exact mxS rfl|apply And.intro)) (Nat.zero_le _) ?_
  intro i hi N hN
  obtain rfl:N = 0 :=hN
  conv => whnf
  by_cases hi2:i < W.length
  ·have hi1:IntKind.i64.wrap (Int.ofNat i + 1) = Int.ofNat (i + 1) :=qa5 (m :=i + 1) (by omega)
   refine qaa (qav hi2) ?_
   conv => whnf
   refine qaz hE hS (A :=Nat) [0,1,2,7,8,9,10,11,12,13,14] (fun k => [(15,nv (hsD J P (Int.ofNat i) k)),(16,nv (mxD W J P (Int.ofNat i) k)),(17,nv k)]) (fun _ => []) (fun _ => []) (fun k => k ≤ J.length) (fun k => J.length - k) 0 (Nat.zero_le _) rfl (by refine ⟨rfl,rfl,rfl,rfl,rfl,rfl,0,rfl,?_,?_⟩ <;> repeat' (first|exact trivial|exact rfl|exact wkr rfl|exact wko rfl|exact Nat.zero_le _|exact qad lW|exact qad lJ|exact qad lP|exact qad lD|exact qad lp|exact kle rfl|exact bdq|exact mxI rfl|exact mxS rfl|apply And.intro)) (Nat.zero_le _) ?_
   intro k hk N hN
   obtain rfl:N = 0 :=hN
   conv => whnf
   by_cases hk2:k < J.length
   ·have hk1:IntKind.i64.wrap (Int.ofNat k + 1) = Int.ofNat (k + 1) :=qa5 (m :=k + 1) (by omega)
    have hkP:k < P.length :=by omega
    have gp :=qbb (l :=P) (i :=k) hkP
    have hkD:k < (dnL W J P).length :=by omega
    have gd :=qbb (l :=dnL W J P) (i :=k) hkD
    rw [hgd k hk2] at gd
    have g0 :=qbe J k hk2
    by_cases e:gi P k = Int.ofNat i
    ·have e0:(gi P k == Int.ofNat i) = true :=beq_iff_eq.2 e
     have hh0 :=(hJ.2 k hk2).1
     have hT :=hsb i k hk
     have e1:IntKind.i64.wrap (Int.ofNat (hsD J P (Int.ofNat i) k) + (gL J k).1) = Int.ofNat (hsD J P (Int.ofNat i) (k + 1)) :=by
      rw [hsD,if_pos e]
      have:Int.ofNat (hsD J P (Int.ofNat i) k) + (gL J k).1 = Int.ofNat (hsD J P (Int.ofNat i) k + (gL J k).1.toNat) :=by
       show ((hsD J P (Int.ofNat i) k:Nat):Int) + _ = ((hsD J P (Int.ofNat i) k + (gL J k).1.toNat:Nat):Int)
       omega
      rw [this]
      exact qa5 (by omega)
     have e2:maxI (Int.ofNat (mxD W J P (Int.ofNat i) k)) (Int.ofNat (dyN W J P k)) = Int.ofNat (mxD W J P (Int.ofNat i) (k + 1)) :=by
      rw [mxD,if_pos e];exact qyb _ _
     try have z277:=qav hk2
     try have z278:=qaj hkP
     try have z279:=qaj hk2
     try have z280:=qaj hkD
     repeat ((first|refine qaf (nthP gp) ?_|refine qaf (nthP g0) ?_|refine qaf (nthP gd) ?_|refine qai ‹_› ?_|refine qah ‹_› ?_|refine pkT ‹_› ?_|refine qaa ‹_› ?_|refine qao ‹_› ?_|refine qap ‹_› ?_|refine pkF ‹_› ?_|refine qac ‹_› ?_|refine qae hS (by kernel_rfl) ?_);conv => whnf)
     exact ⟨k + 1,hk2,by omega,Nat.le_refl _,(by refine ⟨rfl,rfl,rfl,rfl,rfl,rfl,0,rfl,?_,?_⟩ <;> repeat' (first|exact trivial|exact rfl|exact wkr rfl|exact wko rfl|exact Nat.zero_le _|exact ⟨_,rfl,WkV.int hk1⟩|exact ⟨_,rfl,WkV.int e1⟩|exact ⟨_,rfl,WkV.int e2⟩|exact qad lW|exact qad lJ|exact qad lP|exact qad lD|exact qad lp|exact kle rfl|exact bdq|exact mxI rfl|exact mxS rfl|apply And.intro))⟩
    ·have e0:(gi P k == Int.ofNat i) = false :=beq_eq_false_iff_ne.2 e
     have e1:Int.ofNat (hsD J P (Int.ofNat i) k) = Int.ofNat (hsD J P (Int.ofNat i) (k + 1)) :=by rw [hsD,if_neg e]
     have e2:Int.ofNat (mxD W J P (Int.ofNat i) k) = Int.ofNat (mxD W J P (Int.ofNat i) (k + 1)) :=by rw [mxD,if_neg e]
     try have z281:=qav hk2
     try have z282:=qaj hkP
     repeat ((first|refine qaf (nthP gp) ?_|refine qai ‹_› ?_|refine qah ‹_› ?_|refine pkT ‹_› ?_|refine qaa ‹_› ?_|refine qao ‹_› ?_|refine qap ‹_› ?_|refine pkF ‹_› ?_|refine qac ‹_› ?_|refine qae hS (by kernel_rfl) ?_);conv => whnf)
     exact ⟨k + 1,hk2,by omega,Nat.le_refl _,(by refine ⟨rfl,rfl,rfl,rfl,rfl,rfl,0,rfl,?_,?_⟩ <;> repeat' (first|exact trivial|exact rfl|exact wkr rfl|exact wko rfl|exact Nat.zero_le _|exact ⟨_,rfl,WkV.int hk1⟩|exact ⟨_,rfl,WkV.int e1⟩|exact ⟨_,rfl,WkV.int e2⟩|exact qad lW|exact qad lJ|exact qad lP|exact qad lD|exact qad lp|exact kle rfl|exact bdq|exact mxI rfl|exact mxS rfl|apply And.intro))⟩
   ·obtain rfl:k = J.length :=by omega
    refine qac (qbh hk2) ?_
    conv => whnf
    refine .inl ?_
    conv => whnf
    obtain ⟨z1,z2,z3,z4⟩ :=hfit i hi2
    have hw :=(hW.2 i hi2).2.1
    have gw :=qbq W i hi2
    obtain ⟨M,hM⟩ : ∃ M,M = mxD W J P (Int.ofNat i) J.length :=⟨_,rfl⟩
    obtain ⟨T,hT⟩ : ∃ T,T = hsD J P (Int.ofNat i) J.length :=⟨_,rfl⟩
    rw [← hM] at z1 z3 z4
    rw [← hT] at z2 z3 z4
    obtain ⟨d,hd⟩ : ∃ d,(gL W i).2.1 = Int.ofNat d :=⟨(gL W i).2.1.toNat,(Int.toNat_of_nonneg (by omega)).symm⟩
    rw [show (gL W i).2.1.toNat = d by rw [hd];rfl] at z3 z4
    have hd2:d ≤ 12 :=by rw [hd] at hw;have :=hw.2;have:(d:Int) ≤ 12 :=this;omega
    have hMd:M * d ≤ 1000 * 12 :=Nat.mul_le_mul z1 hd2
    have hMd2:(M - 1) * d ≤ 1000 * 12 :=Nat.mul_le_mul (by omega) hd2
    have f1:decide (Int.ofNat (mxD W J P (Int.ofNat i) J.length) > 1000) = false :=decide_eq_false (by rw [← hM];show ¬ (1000:Int) < (M:Int);omega)
    have f2:decide (Int.ofNat (hsD J P (Int.ofNat i) J.length) > IntKind.i64.wrap (Int.ofNat (mxD W J P (Int.ofNat i) J.length) * (gL W i).2.1)) = false :=decide_eq_false (by
     rw [← hM,← hT,hd,mulN (by omega)]
     exact fun z => absurd (Int.ofNat_lt.1 z) (by omega))
    by_cases h0:0 < T
    ·have f3:decide (Int.ofNat (hsD J P (Int.ofNat i) J.length) > 0) = true :=decide_eq_true (by rw [← hT];exact Int.ofNat_lt.2 h0)
     have z5 :=z4 h0
     have hM1:1 ≤ M :=by
      apply Classical.byContradiction
      intro k
      have:M = 0 :=by omega
      rw [this,Nat.zero_mul] at z3
      omega
     have f4:decide (Int.ofNat (hsD J P (Int.ofNat i) J.length) ≤ IntKind.i64.wrap (IntKind.i64.wrap (Int.ofNat (mxD W J P (Int.ofNat i) J.length) - 1) * (gL W i).2.1)) = false :=decide_eq_false (by
      rw [← hM,← hT,hd,show Int.ofNat M - 1 = Int.ofNat (M - 1) by show (M:Int) - 1 = ((M - 1:Nat):Int);omega,qa5 (m :=M - 1) (by omega),mulN (by omega)]
      exact fun z => absurd (Int.ofNat_le.1 z) (by omega))
     try have z283:=qaj hi2
     repeat ((first|refine qaf (nthP gw) ?_|refine qai ‹_› ?_|refine qah ‹_› ?_|refine pkT ‹_› ?_|refine qaa ‹_› ?_|refine qao ‹_› ?_|refine qap ‹_› ?_|refine pkF ‹_› ?_|refine qac ‹_› ?_|refine qai (gff ‹_›) ?_|refine qah (gff ‹_›) ?_|refine pkT (gff ‹_›) ?_|refine qaa (gff ‹_›) ?_|refine qai (qaq ‹_›) ?_|refine qah (qaq ‹_›) ?_|refine pkT (qaq ‹_›) ?_|refine qaa (qaq ‹_›) ?_|refine qae hS (by kernel_rfl) ?_);conv => whnf)
     exact ⟨i + 1,hi2,by omega,Nat.le_refl _,(by refine ⟨rfl,rfl,rfl,rfl,rfl,rfl,0,rfl,?_,?_⟩ <;> repeat' (first|exact trivial|exact rfl|exact wkr rfl|exact wko rfl|exact Nat.zero_le _|exact ⟨_,rfl,WkV.int hi1⟩|exact qad lW|exact qad lJ|exact qad lP|exact qad lD|exact qad lp|exact kle rfl|exact bdq|exact mxI rfl|exact mxS rfl|apply And.intro))⟩
    ·have f3:decide (Int.ofNat (hsD J P (Int.ofNat i) J.length) > 0) = false :=decide_eq_false (by rw [← hT];exact fun z => h0 (Int.ofNat_lt.1 z))
     try have z284:=qaj hi2
     repeat ((first|refine qaf (nthP gw) ?_|refine qai ‹_› ?_|refine qah ‹_› ?_|refine pkT ‹_› ?_|refine qaa ‹_› ?_|refine qao ‹_› ?_|refine qap ‹_› ?_|refine pkF ‹_› ?_|refine qac ‹_› ?_|refine qai (gff ‹_›) ?_|refine qah (gff ‹_›) ?_|refine pkT (gff ‹_›) ?_|refine qaa (gff ‹_›) ?_|refine qao (qa0 ‹_›) ?_|refine qap (qa0 ‹_›) ?_|refine pkF (qa0 ‹_›) ?_|refine qac (qa0 ‹_›) ?_|refine qae hS (by kernel_rfl) ?_);conv => whnf)
     exact ⟨i + 1,hi2,by omega,Nat.le_refl _,(by refine ⟨rfl,rfl,rfl,rfl,rfl,rfl,0,rfl,?_,?_⟩ <;> repeat' (first|exact trivial|exact rfl|exact wkr rfl|exact wko rfl|exact Nat.zero_le _|exact ⟨_,rfl,WkV.int hi1⟩|exact qad lW|exact qad lJ|exact qad lP|exact qad lD|exact qad lp|exact kle rfl|exact bdq|exact mxI rfl|exact mxS rfl|apply And.intro))⟩
  ·refine qac (qbh hi2) ?_
   conv => whnf
   refine .inl ?_
   conv => whnf
   rotate_right
   have ct:(!decide (inTm W J P)) = true :=nt_f (decide_eq_false fun z => qm3 hB P ⟨c,z⟩)
   repeat ((first|refine qai ct ?_|refine qah ct ?_|refine pkT ct ?_|refine qaa ct ?_|refine qai (qaq ct) ?_|refine qah (qaq ct) ?_|refine pkT (qaq ct) ?_|refine qaa (qaq ct) ?_|refine qab hC (known) ?_|refine qae hS (by kernel_rfl) ?_);conv => whnf)
   exact ⟨_,rfl,Wk.refl _⟩
 |some p =>
  rw [hB] at pP
  have pP:Pure prog 25 [lkA W,lkA J] (.tup [nl p.1,iv p.2,iv 0]) :=pP
  have lp :=qat p.1
  refine qar hE rfl (by repeat' first|exact trivial|assumption|exact qag _|exact fun _ h => nomatch h|apply And.intro) (by repeat' first|exact trivial|assumption|exact qag _|exact fun _ h => nomatch h|apply And.intro) fun S q pc hS hq hC hE => ?_
  conv => whnf
  try have z285:=b1'
  repeat ((first|refine qai ‹_› ?_|refine qah ‹_› ?_|refine pkT ‹_› ?_|refine qaa ‹_› ?_|refine qao ‹_› ?_|refine qap ‹_› ?_|refine pkF ‹_› ?_|refine qac ‹_› ?_|refine qai (gff ‹_›) ?_|refine qah (gff ‹_›) ?_|refine pkT (gff ‹_›) ?_|refine qaa (gff ‹_›) ?_|refine qab hC (pF) ?_|refine qab hC (pS) ?_|refine qab hC (pI) ?_|refine qab hC (pP) ?_|refine qab hC (pD) ?_|refine qab hC (pT) ?_|refine qae hS (by kernel_rfl) ?_);conv => whnf)
  refine qaz hE hS (A :=Nat) [0,1,2,7,8,9,10,11,12,13] (fun i => [(14,nv i)]) (fun _ => []) (fun _ => []) (fun i => i ≤ W.length) (fun i => W.length - i) 0 (Nat.zero_le _) rfl (by refine ⟨rfl,rfl,rfl,rfl,rfl,rfl,0,rfl,?_,?_⟩ <;> repeat' (first|exact trivial|exact rfl|exact wkr rfl|exact wko rfl|exact Nat.zero_le _|exact qad lW|exact qad lJ|exact qad lP|exact qad lD|exact qad lp|exact kle rfl|exact bdq|exact mxI rfl|exact mxS rfl|apply And.intro)) (Nat.zero_le _) ?_
  intro i hi N hN
  obtain rfl:N = 0 :=hN
  conv => whnf
  by_cases hi2:i < W.length
  ·have hi1:IntKind.i64.wrap (Int.ofNat i + 1) = Int.ofNat (i + 1) :=qa5 (m :=i + 1) (by omega)
   refine qaa (qav hi2) ?_
   conv => whnf
   refine qaz hE hS (A :=Nat) [0,1,2,7,8,9,10,11,12,13,14] (fun k => [(15,nv (hsD J P (Int.ofNat i) k)),(16,nv (mxD W J P (Int.ofNat i) k)),(17,nv k)]) (fun _ => []) (fun _ => []) (fun k => k ≤ J.length) (fun k => J.length - k) 0 (Nat.zero_le _) rfl (by refine ⟨rfl,rfl,rfl,rfl,rfl,rfl,0,rfl,?_,?_⟩ <;> repeat' (first|exact trivial|exact rfl|exact wkr rfl|exact wko rfl|exact Nat.zero_le _|exact qad lW|exact qad lJ|exact qad lP|exact qad lD|exact qad lp|exact kle rfl|exact bdq|exact mxI rfl|exact mxS rfl|apply And.intro)) (Nat.zero_le _) ?_
   intro k hk N hN
   obtain rfl:N = 0 :=hN
   conv => whnf
   by_cases hk2:k < J.length
   ·have hk1:IntKind.i64.wrap (Int.ofNat k + 1) = Int.ofNat (k + 1) :=qa5 (m :=k + 1) (by omega)
    have hkP:k < P.length :=by omega
    have gp :=qbb (l :=P) (i :=k) hkP
    have hkD:k < (dnL W J P).length :=by omega
    have gd :=qbb (l :=dnL W J P) (i :=k) hkD
    rw [hgd k hk2] at gd
    have g0 :=qbe J k hk2
    by_cases e:gi P k = Int.ofNat i
    ·have e0:(gi P k == Int.ofNat i) = true :=beq_iff_eq.2 e
     have hh0 :=(hJ.2 k hk2).1
     have hT :=hsb i k hk
     have e1:IntKind.i64.wrap (Int.ofNat (hsD J P (Int.ofNat i) k) + (gL J k).1) = Int.ofNat (hsD J P (Int.ofNat i) (k + 1)) :=by
      rw [hsD,if_pos e]
      have:Int.ofNat (hsD J P (Int.ofNat i) k) + (gL J k).1 = Int.ofNat (hsD J P (Int.ofNat i) k + (gL J k).1.toNat) :=by
       show ((hsD J P (Int.ofNat i) k:Nat):Int) + _ = ((hsD J P (Int.ofNat i) k + (gL J k).1.toNat:Nat):Int)
       omega
      rw [this]
      exact qa5 (by omega)
     have e2:maxI (Int.ofNat (mxD W J P (Int.ofNat i) k)) (Int.ofNat (dyN W J P k)) = Int.ofNat (mxD W J P (Int.ofNat i) (k + 1)) :=by
      rw [mxD,if_pos e];exact qyb _ _
     try have z286:=qav hk2
     try have z287:=qaj hkP
     try have z288:=qaj hk2
     try have z289:=qaj hkD
     repeat ((first|refine qaf (nthP gp) ?_|refine qaf (nthP g0) ?_|refine qaf (nthP gd) ?_|refine qai ‹_› ?_|refine qah ‹_› ?_|refine pkT ‹_› ?_|refine qaa ‹_› ?_|refine qao ‹_› ?_|refine qap ‹_› ?_|refine pkF ‹_› ?_|refine qac ‹_› ?_|refine qae hS (by kernel_rfl) ?_);conv => whnf)
     exact ⟨k + 1,hk2,by omega,Nat.le_refl _,(by refine ⟨rfl,rfl,rfl,rfl,rfl,rfl,0,rfl,?_,?_⟩ <;> repeat' (first|exact trivial|exact rfl|exact wkr rfl|exact wko rfl|exact Nat.zero_le _|exact ⟨_,rfl,WkV.int hk1⟩|exact ⟨_,rfl,WkV.int e1⟩|exact ⟨_,rfl,WkV.int e2⟩|exact qad lW|exact qad lJ|exact qad lP|exact qad lD|exact qad lp|exact kle rfl|exact bdq|exact mxI rfl|exact mxS rfl|apply And.intro))⟩
    ·have e0:(gi P k == Int.ofNat i) = false :=beq_eq_false_iff_ne.2 e
     have e1:Int.ofNat (hsD J P (Int.ofNat i) k) = Int.ofNat (hsD J P (Int.ofNat i) (k + 1)) :=by rw [hsD,if_neg e]
     have e2:Int.ofNat (mxD W J P (Int.ofNat i) k) = Int.ofNat (mxD W J P (Int.ofNat i) (k + 1)) :=by rw [mxD,if_neg e]
     try have z290:=qav hk2
     try have z291:=qaj hkP
     repeat ((first|refine qaf (nthP gp) ?_|refine qai ‹_› ?_|refine qah ‹_› ?_|refine pkT ‹_› ?_|refine qaa ‹_› ?_|refine qao ‹_› ?_|refine qap ‹_› ?_|refine pkF ‹_› ?_|refine qac ‹_› ?_|refine qae hS (by kernel_rfl) ?_);conv => whnf)
     exact ⟨k + 1,hk2,by omega,Nat.le_refl _,(by refine ⟨rfl,rfl,rfl,rfl,rfl,rfl,0,rfl,?_,?_⟩ <;> repeat' (first|exact trivial|exact rfl|exact wkr rfl|exact wko rfl|exact Nat.zero_le _|exact ⟨_,rfl,WkV.int hk1⟩|exact ⟨_,rfl,WkV.int e1⟩|exact ⟨_,rfl,WkV.int e2⟩|exact qad lW|exact qad lJ|exact qad lP|exact qad lD|exact qad lp|exact kle rfl|exact bdq|exact mxI rfl|exact mxS rfl|apply And.intro))⟩
   ·obtain rfl:k = J.length :=by omega
    refine qac (qbh hk2) ?_
    conv => whnf
    refine .inl ?_
    conv => whnf
    obtain ⟨z1,z2,z3,z4⟩ :=hfit i hi2
    have hw :=(hW.2 i hi2).2.1
    have gw :=qbq W i hi2
    obtain ⟨M,hM⟩ : ∃ M,M = mxD W J P (Int.ofNat i) J.length :=⟨_,rfl⟩
    obtain ⟨T,hT⟩ : ∃ T,T = hsD J P (Int.ofNat i) J.length :=⟨_,rfl⟩
    rw [← hM] at z1 z3 z4
    rw [← hT] at z2 z3 z4
    obtain ⟨d,hd⟩ : ∃ d,(gL W i).2.1 = Int.ofNat d :=⟨(gL W i).2.1.toNat,(Int.toNat_of_nonneg (by omega)).symm⟩
    rw [show (gL W i).2.1.toNat = d by rw [hd];rfl] at z3 z4
    have hd2:d ≤ 12 :=by rw [hd] at hw;have :=hw.2;have:(d:Int) ≤ 12 :=this;omega
    have hMd:M * d ≤ 1000 * 12 :=Nat.mul_le_mul z1 hd2
    have hMd2:(M - 1) * d ≤ 1000 * 12 :=Nat.mul_le_mul (by omega) hd2
    have f1:decide (Int.ofNat (mxD W J P (Int.ofNat i) J.length) > 1000) = false :=decide_eq_false (by rw [← hM];show ¬ (1000:Int) < (M:Int);omega)
    have f2:decide (Int.ofNat (hsD J P (Int.ofNat i) J.length) > IntKind.i64.wrap (Int.ofNat (mxD W J P (Int.ofNat i) J.length) * (gL W i).2.1)) = false :=decide_eq_false (by
     rw [← hM,← hT,hd,mulN (by omega)]
     exact fun z => absurd (Int.ofNat_lt.1 z) (by omega))
    by_cases h0:0 < T
    ·have f3:decide (Int.ofNat (hsD J P (Int.ofNat i) J.length) > 0) = true :=decide_eq_true (by rw [← hT];exact Int.ofNat_lt.2 h0)
     have z5 :=z4 h0
     have hM1:1 ≤ M :=by
      apply Classical.byContradiction
      intro k
      have:M = 0 :=by omega
      rw [this,Nat.zero_mul] at z3
      omega
     have f4:decide (Int.ofNat (hsD J P (Int.ofNat i) J.length) ≤ IntKind.i64.wrap (IntKind.i64.wrap (Int.ofNat (mxD W J P (Int.ofNat i) J.length) - 1) * (gL W i).2.1)) = false :=decide_eq_false (by
      rw [← hM,← hT,hd,show Int.ofNat M - 1 = Int.ofNat (M - 1) by show (M:Int) - 1 = ((M - 1:Nat):Int);omega,qa5 (m :=M - 1) (by omega),mulN (by omega)]
      exact fun z => absurd (Int.ofNat_le.1 z) (by omega))
     try have z292:=qaj hi2
     repeat ((first|refine qaf (nthP gw) ?_|refine qai ‹_› ?_|refine qah ‹_› ?_|refine pkT ‹_› ?_|refine qaa ‹_› ?_|refine qao ‹_› ?_|refine qap ‹_› ?_|refine pkF ‹_› ?_|refine qac ‹_› ?_|refine qai (gff ‹_›) ?_|refine qah (gff ‹_›) ?_|refine pkT (gff ‹_›) ?_|refine qaa (gff ‹_›) ?_|refine qai (qaq ‹_›) ?_|refine qah (qaq ‹_›) ?_|refine pkT (qaq ‹_›) ?_|refine qaa (qaq ‹_›) ?_|refine qae hS (by kernel_rfl) ?_);conv => whnf)
     exact ⟨i + 1,hi2,by omega,Nat.le_refl _,(by refine ⟨rfl,rfl,rfl,rfl,rfl,rfl,0,rfl,?_,?_⟩ <;> repeat' (first|exact trivial|exact rfl|exact wkr rfl|exact wko rfl|exact Nat.zero_le _|exact ⟨_,rfl,WkV.int hi1⟩|exact qad lW|exact qad lJ|exact qad lP|exact qad lD|exact qad lp|exact kle rfl|exact bdq|exact mxI rfl|exact mxS rfl|apply And.intro))⟩
    ·have f3:decide (Int.ofNat (hsD J P (Int.ofNat i) J.length) > 0) = false :=decide_eq_false (by rw [← hT];exact fun z => h0 (Int.ofNat_lt.1 z))
     try have z293:=qaj hi2
     repeat ((first|refine qaf (nthP gw) ?_|refine qai ‹_› ?_|refine qah ‹_› ?_|refine pkT ‹_› ?_|refine qaa ‹_› ?_|refine qao ‹_› ?_|refine qap ‹_› ?_|refine pkF ‹_› ?_|refine qac ‹_› ?_|refine qai (gff ‹_›) ?_|refine qah (gff ‹_›) ?_|refine pkT (gff ‹_›) ?_|refine qaa (gff ‹_›) ?_|refine qao (qa0 ‹_›) ?_|refine qap (qa0 ‹_›) ?_|refine pkF (qa0 ‹_›) ?_|refine qac (qa0 ‹_›) ?_|refine qae hS (by kernel_rfl) ?_);conv => whnf)
     exact ⟨i + 1,hi2,by omega,Nat.le_refl _,(by refine ⟨rfl,rfl,rfl,rfl,rfl,rfl,0,rfl,?_,?_⟩ <;> repeat' (first|exact trivial|exact rfl|exact wkr rfl|exact wko rfl|exact Nat.zero_le _|exact ⟨_,rfl,WkV.int hi1⟩|exact qad lW|exact qad lJ|exact qad lP|exact qad lD|exact qad lp|exact kle rfl|exact bdq|exact mxI rfl|exact mxS rfl|apply And.intro))⟩
  ·refine qac (qbh hi2) ?_
   conv => whnf
   refine .inl ?_
   conv => whnf
   rotate_right
   obtain ⟨q1,q2,q3,q4⟩ :=qfn hB
   have pIp :=qhk (W :=W) (J :=J) (P :=p.1) hW.1 (by omega)
   have cip:(!decide (isPl W J p.1)) = false :=nt_t (decide_eq_true q1.1)
   have pDp :=qjd hW hJ q1.1
   rw [← q2] at pDp
   have hDp:(dnL W J p.1).length = J.length :=qcw W J p.1 J.length
   have pTp :=qgn (J :=J) (D :=dnL W J p.1) hDp (by omega) (qyw hW hJ q1.1)
   rw [decide_eq_true q1.2] at pTp
   have b3:(p.2 == p.2) = true :=beq_self_eq_true _
   by_cases t:inTm W J P
   ·have ct:(!decide (inTm W J P)) = false :=nt_t (decide_eq_true t)
    have hle :=q4 P ⟨c,t⟩
    by_cases g:wgJ W J P P.length > p.2
    ·have g1:decide (wgJ W J P P.length > p.2) = true :=decide_eq_true g
     repeat ((first|refine qai ‹_› ?_|refine qah ‹_› ?_|refine pkT ‹_› ?_|refine qaa ‹_› ?_|refine qao ‹_› ?_|refine qap ‹_› ?_|refine pkF ‹_› ?_|refine qac ‹_› ?_|refine qai (qaq ‹_›) ?_|refine qah (qaq ‹_›) ?_|refine pkT (qaq ‹_›) ?_|refine qaa (qaq ‹_›) ?_|refine qai (gff ‹_›) ?_|refine qah (gff ‹_›) ?_|refine pkT (gff ‹_›) ?_|refine qaa (gff ‹_›) ?_|refine qao (gft ‹_›) ?_|refine qap (gft ‹_›) ?_|refine pkF (gft ‹_›) ?_|refine qac (gft ‹_›) ?_|refine qab hC (pIp) ?_|refine qab hC (pDp) ?_|refine qab hC (pTp) ?_|refine qab hC (known) ?_|refine qae hS (by kernel_rfl) ?_);conv => whnf)
     exact ⟨_,rfl,Wk.refl _⟩
    ·have ge:wgJ W J P P.length = p.2 :=by omega
     have g1:decide (wgJ W J P P.length > p.2) = false :=decide_eq_false g
     have g2:(wgJ W J P P.length == p.2) = true :=beq_iff_eq.2 ge
     have zP :=qna (P :=P) fun i hi => (c.2 i hi).1.1
     have zp :=qna (P :=p.1) fun i hi => (q1.1.2 i hi).1.1
     have pB :=qk5 (P.map Int.toNat) (p.1.map Int.toNat) (by rw [List.length_map,List.length_map];omega) (by rw [List.length_map];omega)
     rw [← zP,← zp] at pB
     have g3:(!bfr (P.map Int.toNat) (p.1.map Int.toNat)) = true :=by
      refine nt_f (Bool.eq_false_iff.2 fun z => hle.2 ge ?_)
      have :=(qvr (a :=P.map Int.toNat) (b :=p.1.map Int.toNat) (by rw [List.length_map,List.length_map];omega)).1 z
      rwa [← zP,← zp] at this
     repeat ((first|refine qai ‹_› ?_|refine qah ‹_› ?_|refine pkT ‹_› ?_|refine qaa ‹_› ?_|refine qao ‹_› ?_|refine qap ‹_› ?_|refine pkF ‹_› ?_|refine qac ‹_› ?_|refine qai (qaq ‹_›) ?_|refine qah (qaq ‹_›) ?_|refine pkT (qaq ‹_›) ?_|refine qaa (qaq ‹_›) ?_|refine qai (gff ‹_›) ?_|refine qah (gff ‹_›) ?_|refine pkT (gff ‹_›) ?_|refine qaa (gff ‹_›) ?_|refine qab hC (pIp) ?_|refine qab hC (pDp) ?_|refine qab hC (pTp) ?_|refine qab hC (pB) ?_|refine qab hC (known) ?_|refine qae hS (by kernel_rfl) ?_);conv => whnf)
     exact ⟨_,rfl,Wk.refl _⟩
   ·have ct:(!decide (inTm W J P)) = true :=nt_f (decide_eq_false t)
    repeat ((first|refine qai ‹_› ?_|refine qah ‹_› ?_|refine pkT ‹_› ?_|refine qaa ‹_› ?_|refine qao ‹_› ?_|refine qap ‹_› ?_|refine pkF ‹_› ?_|refine qac ‹_› ?_|refine qai (qaq ‹_›) ?_|refine qah (qaq ‹_›) ?_|refine pkT (qaq ‹_›) ?_|refine qaa (qaq ‹_›) ?_|refine qao (gft ‹_›) ?_|refine qap (gft ‹_›) ?_|refine pkF (gft ‹_›) ?_|refine qac (gft ‹_›) ?_|refine qab hC (pIp) ?_|refine qab hC (pDp) ?_|refine qab hC (pTp) ?_|refine qab hC (known) ?_|refine qae hS (by kernel_rfl) ?_);conv => whnf)
    exact ⟨_,rfl,Wk.refl _⟩
end
end Go.Abs.Seat
