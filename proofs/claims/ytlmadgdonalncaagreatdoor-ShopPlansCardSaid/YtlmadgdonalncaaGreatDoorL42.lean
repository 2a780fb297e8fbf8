/-
  The law ShopPlans.
-/
import Derived.Test.YtlmadgdonalncaaGreatDoorU17
import Derived.Test.YtlmadgdonalncaaGreatDoorU7
namespace Go.Abs.Seat
noncomputable section
open Go Go.Abs Go.Proofs.Tryz
set_option maxRecDepth 100000
set_option maxHeartbeats 40000000
attribute [local irreducible] IntKind.wrap pEq
theorem quq {x:AV} {L:List LkI} (h:LL x L) (hl:1 ≤ L.length):x = lkA L :=by
 rcases h with ⟨_,rfl⟩ | h
 ·exact absurd hl (by simp)
 ·exact h
theorem shopPlans (known:Pure prog 13 [] (.bool true)) {x y h:AV} {W J:List LkI} {P:List Int} (hx:LL x W) (hy:LL y J) (hh:IL h P):Pure prog 5 [x,y,h] (.bool true) :=by
 have lx :=hx.no
 have ly :=hy.no
 have lh :=hh.no
 have pF :=qk4 hx hy hh
 by_cases f:fewP W J P
 rotate_left
 ·have cf:(!decide (fewP W J P)) = true :=nt_f (decide_eq_false f)
  rcases hx with ⟨rfl,_⟩ | rfl <;> rcases hy with ⟨rfl,_⟩ | rfl <;> rcases hh with ⟨rfl,_⟩ | rfl
  all_goals
   refine qar hE rfl (by repeat' first|exact trivial|assumption|exact qag _|exact fun _ h => nomatch h|apply And.intro) (by repeat' first|exact trivial|assumption|exact qag _|exact fun _ h => nomatch h|apply And.intro) fun S q pc hS hq hC hE => ?_
   conv => whnf
   repeat ((first|refine qai cf ?_|refine qah cf ?_|refine pkT cf ?_|refine qaa cf ?_|refine qab hC (pF) ?_|refine qab hC (known) ?_|refine qae hS (by kernel_rfl) ?_);conv => whnf)
   exact ⟨_,rfl,Wk.refl _⟩
 have cf:(!decide (fewP W J P)) = false :=nt_t (decide_eq_true f)
 have pS :=qij hx hy f.1 f.2.1
 by_cases s:areW W ∧ areJ J
 rotate_left
 ·have cs:(!decide (areW W ∧ areJ J)) = true :=nt_f (decide_eq_false s)
  have pD :=qtd hx hy hh s
  have pP :=qtc hx hy s
  rcases hx with ⟨rfl,_⟩ | rfl <;> rcases hy with ⟨rfl,_⟩ | rfl <;> rcases hh with ⟨rfl,_⟩ | rfl
  all_goals
   refine qar hE rfl (by repeat' first|exact trivial|assumption|exact qag _|exact fun _ h => nomatch h|apply And.intro) (by repeat' first|exact trivial|assumption|exact qag _|exact fun _ h => nomatch h|apply And.intro) fun S q pc hS hq hC hE => ?_
   conv => whnf
   repeat ((first|refine qai ‹_› ?_|refine qah ‹_› ?_|refine pkT ‹_› ?_|refine qaa ‹_› ?_|refine qao ‹_› ?_|refine qap ‹_› ?_|refine pkF ‹_› ?_|refine qac ‹_› ?_|refine qab hC (pF) ?_|refine qab hC (pD) ?_|refine qab hC (pP) ?_|refine qab hC (pS) ?_|refine qab hC (known) ?_|refine qae hS (by kernel_rfl) ?_);conv => whnf)
   exact ⟨_,rfl,Wk.refl _⟩
 have cs:(!decide (areW W ∧ areJ J)) = false :=nt_t (decide_eq_true s)
 obtain ⟨hW,hJ⟩ :=s
 obtain rfl :=quq hx hW.1.1
 obtain rfl :=quq hy hJ.1.1
 have lW :=qay W
 have lJ :=qay J
 have pP :=qii hW hJ
 have pR :=qo3 hW hJ
 rw [qwd] at pR
 have hpl:∀ p,qex W J = some p → okP W J p.1 ∧ p.2 = wgJ W J p.1 p.1.length :=fun p hp => ⟨(qfn hp).1,(qfn hp).2.1⟩
 generalize qex W J = B at *
 have pI :=qgk (W :=W) (J :=J) hh hW.1 hJ.1.1 f.2.2
 by_cases c:isPl W J P
 ·have ci:(!decide (isPl W J P)) = false :=nt_t (decide_eq_true c)
  have hP:h = nl P :=by
   rcases hh with ⟨_,rfl⟩ | hh
   ·have:(0:Nat) = J.length :=c.1
    have :=hJ.1.1
    omega
   ·exact hh
  subst hP
  have lP :=qat P
  have lD :=qat (dnL W J P)
  have pD :=qjd hW hJ c
  have pd :=qik hW hJ c
  have pw :=qdi hW hJ c
  have hDl:(dnL W J P).length ≤ 1000 :=by rw [qcw];have :=hJ.1.2;omega
  have pQ :=qhg (dnL W J P) (dnL W J P) (by omega) (b :=true) ⟨fun _ => rfl,fun _ => rfl⟩
  have b1:(wgJ W J P P.length != wgJ W J P P.length) = false :=bne_self_eq_false _
  generalize dnL W J P = D at *
  generalize hw:wgJ W J P P.length = w at *
  cases B with
  |none =>
   refine qar hE rfl (by repeat' first|exact trivial|assumption|exact qag _|exact fun _ h => nomatch h|apply And.intro) (by repeat' first|exact trivial|assumption|exact qag _|exact fun _ h => nomatch h|apply And.intro) fun S q pc hS hq hC hE => ?_
   conv => whnf
   repeat ((first|refine qao ‹_› ?_|refine qap ‹_› ?_|refine pkF ‹_› ?_|refine qac ‹_› ?_|refine qab hC (pF) ?_|refine qab hC (pD) ?_|refine qab hC (pP) ?_|refine qab hC (pS) ?_|refine qab hC (pI) ?_|refine qab hC (pd) ?_|refine qab hC (pQ) ?_|refine qab hC (pw) ?_|refine qab hC (pR) ?_|refine qab hC (known) ?_|refine qae hS (by kernel_rfl) ?_);conv => whnf)
   exact ⟨_,rfl,Wk.refl _⟩
  |some p =>
   obtain ⟨q1,q2⟩ :=hpl p rfl
   have lp :=qat p.1
   have pv :=qdi hW hJ q1.1
   rw [← q2] at pv
   have pE :=qhg p.1 p.1 (by have :=q1.1.1;have :=hJ.1.2;omega) (b :=true) ⟨fun _ => rfl,fun _ => rfl⟩
   have b2:(p.2 == p.2) = true :=beq_self_eq_true _
   refine qar hE rfl (by repeat' first|exact trivial|assumption|exact qag _|exact fun _ h => nomatch h|apply And.intro) (by repeat' first|exact trivial|assumption|exact qag _|exact fun _ h => nomatch h|apply And.intro) fun S q pc hS hq hC hE => ?_
   conv => whnf
   repeat ((first|refine qai ‹_› ?_|refine qah ‹_› ?_|refine pkT ‹_› ?_|refine qaa ‹_› ?_|refine qao ‹_› ?_|refine qap ‹_› ?_|refine pkF ‹_› ?_|refine qac ‹_› ?_|refine qab hC (pF) ?_|refine qab hC (pD) ?_|refine qab hC (pP) ?_|refine qab hC (pS) ?_|refine qab hC (pI) ?_|refine qab hC (pd) ?_|refine qab hC (pQ) ?_|refine qab hC (pw) ?_|refine qab hC (pR) ?_|refine qab hC (pE) ?_|refine qab hC (pv) ?_|refine qab hC (known) ?_|refine qae hS (by kernel_rfl) ?_);conv => whnf)
   exact ⟨_,rfl,Wk.refl _⟩
 ·have ci:(!decide (isPl W J P)) = true :=nt_f (decide_eq_false c)
  have pD :=qqd hW hJ hh f.2.2 c
  cases B with
  |none =>
   rcases hh with ⟨rfl,_⟩ | rfl
   all_goals
    refine qar hE rfl (by repeat' first|exact trivial|assumption|exact qag _|exact fun _ h => nomatch h|apply And.intro) (by repeat' first|exact trivial|assumption|exact qag _|exact fun _ h => nomatch h|apply And.intro) fun S q pc hS hq hC hE => ?_
    conv => whnf
    repeat ((first|refine qai ‹_› ?_|refine qah ‹_› ?_|refine pkT ‹_› ?_|refine qaa ‹_› ?_|refine qao ‹_› ?_|refine qap ‹_› ?_|refine pkF ‹_› ?_|refine qac ‹_› ?_|refine qab hC (pF) ?_|refine qab hC (pD) ?_|refine qab hC (pP) ?_|refine qab hC (pS) ?_|refine qab hC (pI) ?_|refine qab hC (pR) ?_|refine qab hC (known) ?_|refine qae hS (by kernel_rfl) ?_);conv => whnf)
    exact ⟨_,rfl,Wk.refl _⟩
  |some p =>
   obtain ⟨q1,q2⟩ :=hpl p rfl
   have lp :=qat p.1
   have pv :=qdi hW hJ q1.1
   rw [← q2] at pv
   have pE :=qhg p.1 p.1 (by have :=q1.1.1;have :=hJ.1.2;omega) (b :=true) ⟨fun _ => rfl,fun _ => rfl⟩
   have b2:(p.2 == p.2) = true :=beq_self_eq_true _
   rcases hh with ⟨rfl,_⟩ | rfl
   all_goals
    refine qar hE rfl (by repeat' first|exact trivial|assumption|exact qag _|exact fun _ h => nomatch h|apply And.intro) (by repeat' first|exact trivial|assumption|exact qag _|exact fun _ h => nomatch h|apply And.intro) fun S q pc hS hq hC hE => ?_
    conv => whnf
    repeat ((first|refine qai ‹_› ?_|refine qah ‹_› ?_|refine pkT ‹_› ?_|refine qaa ‹_› ?_|refine qao ‹_› ?_|refine qap ‹_› ?_|refine pkF ‹_› ?_|refine qac ‹_› ?_|refine qab hC (pF) ?_|refine qab hC (pD) ?_|refine qab hC (pP) ?_|refine qab hC (pS) ?_|refine qab hC (pI) ?_|refine qab hC (pR) ?_|refine qab hC (pE) ?_|refine qab hC (pv) ?_|refine qab hC (known) ?_|refine qae hS (by kernel_rfl) ?_);conv => whnf)
    exact ⟨_,rfl,Wk.refl _⟩
end
end Go.Abs.Seat
