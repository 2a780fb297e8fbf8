/-
  The law ShopRefuses.
-/
import Derived.Test.YtlmadgdonalncaaGreatDoorU18
namespace Go.Abs.Seat
noncomputable section
open Go Go.Abs Go.Proofs.Tryz
set_option maxRecDepth 100000
set_option maxHeartbeats 40000000
attribute [local irreducible] IntKind.wrap pEq
theorem shopRefuses (known:Pure prog 13 [] (.bool true)) {x y:AV} {W J:List LkI} (hx:LL x W) (hy:LL y J):Pure prog 7 [x,y] (.bool true) :=by
 have lx :=hx.no
 have ly :=hy.no
 have pF :=qlz hx hy (h :=.nils) (P :=[]) (.inl ⟨rfl,rfl⟩)
 by_cases f:fewP W J []
 rotate_left
 ·have cf:(!decide (fewP W J [])) = true :=nt_f (decide_eq_false f)
  rcases hx with ⟨rfl,_⟩ | rfl <;> rcases hy with ⟨rfl,_⟩ | rfl
  all_goals
   refine qan hE rfl (by repeat' first|exact trivial|assumption|exact qaf _|exact fun _ h => nomatch h|apply And.intro) (by repeat' first|exact trivial|assumption|exact qaf _|exact fun _ h => nomatch h|apply And.intro) fun S q pc hS hq hC hE => ?_
   conv => whnf
   repeat ((first|refine qak cf ?_|refine qaj cf ?_|refine pkT cf ?_|refine qaa cf ?_|refine qac hC (pF) ?_|refine qac hC (known) ?_|refine qad hS (by kernel_rfl) ?_);conv => whnf)
   exact ⟨_,rfl,Wk.refl _⟩
 have cf:(!decide (fewP W J [])) = false :=nt_t (decide_eq_true f)
 have pS :=qi4 hx hy f.1 f.2.1
 by_cases s:areW W ∧ areJ J
 rotate_left
 ·have cs:(!decide (areW W ∧ areJ J)) = true :=nt_f (decide_eq_false s)
  have pD :=qp7 hx hy s
  rcases hx with ⟨rfl,_⟩ | rfl <;> rcases hy with ⟨rfl,_⟩ | rfl
  all_goals
   refine qan hE rfl (by repeat' first|exact trivial|assumption|exact qaf _|exact fun _ h => nomatch h|apply And.intro) (by repeat' first|exact trivial|assumption|exact qaf _|exact fun _ h => nomatch h|apply And.intro) fun S q pc hS hq hC hE => ?_
   conv => whnf
   repeat ((first|refine qak ‹_› ?_|refine qaj ‹_› ?_|refine pkT ‹_› ?_|refine qaa ‹_› ?_|refine qap ‹_› ?_|refine qaq ‹_› ?_|refine pkF ‹_› ?_|refine qab ‹_› ?_|refine qac hC (pF) ?_|refine qac hC (pD) ?_|refine qac hC (pS) ?_|refine qac hC (known) ?_|refine qad hS (by kernel_rfl) ?_);conv => whnf)
   exact ⟨_,rfl,Wk.refl _⟩
 have cs:(!decide (areW W ∧ areJ J)) = false :=nt_t (decide_eq_true s)
 obtain ⟨hW,hJ⟩ :=s
 obtain rfl :=qwb hx hW.1.1
 obtain rfl :=qwb hy hJ.1.1
 have lW :=qa0 W
 have lJ :=qa0 J
 have pP :=qgy hW hJ
 have pR :=qlm hW hJ
 have hl:(rRf W J).length ≤ J.length :=qlb (qft.1 qox.1).1
 rw [qrp hJ] at pP
 generalize rRf W J = G at *
 have hJ6 :=hJ.1.2
 have pQ :=qrk G G (by omega) (b :=true) ⟨fun _ => rfl,fun _ => rfl⟩
 obtain ⟨w,hw⟩ :=SVv.of G
 rw [← hw.eq] at pP pR
 rcases hw with ⟨rfl,rfl⟩ | ⟨rfl,_⟩
 ·refine qan hE rfl (by repeat' first|exact trivial|assumption|exact qaf _|exact fun _ h => nomatch h|apply And.intro) (by repeat' first|exact trivial|assumption|exact qaf _|exact fun _ h => nomatch h|apply And.intro) fun S q pc hS hq hC hE => ?_
  conv => whnf
  repeat ((first|refine qap ‹_› ?_|refine qaq ‹_› ?_|refine pkF ‹_› ?_|refine qab ‹_› ?_|refine qac hC (pF) ?_|refine qac hC (pP) ?_|refine qac hC (pS) ?_|refine qac hC (pR) ?_|refine qac hC (known) ?_|refine qad hS (by kernel_rfl) ?_);conv => whnf)
  refine qas hC ?_
  conv => whnf
  refine qam hE hS ?_
  conv => whnf
  refine qah hE hS ?_
  conv => whnf
  repeat ((first|refine qap ‹_› ?_|refine qaq ‹_› ?_|refine pkF ‹_› ?_|refine qab ‹_› ?_|refine qac hC (pF) ?_|refine qac hC (pP) ?_|refine qac hC (pS) ?_|refine qac hC (pR) ?_|refine qac hC (known) ?_|refine qad hS (by kernel_rfl) ?_);conv => whnf)
  exact ⟨_,rfl,Wk.refl _⟩
 ·have lG :=qat G
  refine qan hE rfl (by repeat' first|exact trivial|assumption|exact qaf _|exact fun _ h => nomatch h|apply And.intro) (by repeat' first|exact trivial|assumption|exact qaf _|exact fun _ h => nomatch h|apply And.intro) fun S q pc hS hq hC hE => ?_
  conv => whnf
  repeat ((first|refine qap ‹_› ?_|refine qaq ‹_› ?_|refine pkF ‹_› ?_|refine qab ‹_› ?_|refine qac hC (pF) ?_|refine qac hC (pP) ?_|refine qac hC (pS) ?_|refine qac hC (pR) ?_|refine qac hC (pQ) ?_|refine qac hC (known) ?_|refine qad hS (by kernel_rfl) ?_);conv => whnf)
  exact ⟨_,rfl,Wk.refl _⟩
end
end Go.Abs.Seat
