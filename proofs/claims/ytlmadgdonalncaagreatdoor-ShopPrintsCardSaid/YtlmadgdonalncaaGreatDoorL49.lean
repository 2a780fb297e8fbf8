/-
  The law ShopPrints.
-/
import Derived.Test.YtlmadgdonalncaaGreatDoorU13
namespace Go.Abs.Seat
noncomputable section
open Go Go.Abs Go.Proofs.Tryz
set_option maxRecDepth 100000
set_option maxHeartbeats 40000000
attribute [local irreducible] IntKind.wrap pEq
theorem qv5 {N:List Lk} {H:List Nat} (h:pcN N H):(prtB N H).length ≤ 200 :=by
 have k :=qbz (N :=N) (H :=H) (lnsB N H).length
 have k2 :=qqg N H
 have l5 :=h.l5
 have h4 :=h.h4
 have d1 :=qa8 (ckN (lnsB N H) (lnsB N H).length % 127 / 100)
 have d2 :=qa8 (ckN (lnsB N H) (lnsB N H).length % 127 / 10 % 10)
 have d3 :=qa8 (ckN (lnsB N H) (lnsB N H).length % 127 % 10)
 have e:∀ c,(endL c).length = 4 + ((dec (c / 100)).length + ((dec (c / 10 % 10)).length + (dec (c % 10)).length)) :=fun c => by
  unfold endL
  rw [List.length_append,List.length_append,List.length_append]
  rfl
 unfold prtB
 rw [qth,List.length_append,List.length_append,e]
 show _ + (_ + 1) ≤ 200
 have k3:(lnsB N H).length * 17 ≤ 10 * 17 :=Nat.mul_le_mul_right 17 (by omega)
 omega
theorem prints_law (known:Pure prog 13 [] (.bool true)) {x h:AV} {L:List LkI} {M:List Int} (hx:LL x L) (hh:IL h M):Pure prog 10 [.agg [x,h]] (.bool true) :=by
 have lx :=hx.no
 have lh :=hh.no
 by_cases s:L.length ≤ 7 ∧ M.length ≤ 6
 ·have ps :=qo2 hx hh s.1 s.2
  by_cases hp:pcOk L M
  ·obtain ⟨N,H,rfl,rfl,hp2⟩ :=qv8 hp
   have hx2:x = nkA N :=by
    rcases hx with ⟨_,e⟩ | rfl
    ·have :=hp.1.1.1
     rw [e] at this
     exact absurd this (by decide)
    ·exact qqb N
   have hh2:h = nl (zl H) :=by
    rcases hh with ⟨_,e⟩ | rfl
    ·have :=hp.1.2.1
     rw [e] at this
     exact absurd this (by decide)
    ·rfl
   subst hx2 hh2
   have p1 :=qpb hp2
   have p2 :=hp2.rP
   have p3 :=qru (qv5 hp2) hp2.tx hp2
   have p4 :=qk1 (x :=nkA N) (y :=nl (zl H)) hp2.okT (by have :=hp2.l5;omega) (by have :=hp2.h4;omega) (.inr ⟨rfl,fun z => by have :=hp2.l1;rw [z] at this;exact absurd this (by decide)⟩) (.inr ⟨rfl,fun z => by have :=hp2.h1;rw [z] at this;exact absurd this (by decide)⟩)
   have p5 :=qnp hp2
   have te:(prtB N H == prtB N H) = true :=beq_self_eq_true _
   refine qaq hE rfl (by repeat' first|exact trivial|assumption|exact qae _|exact fun _ h => nomatch h|apply And.intro) (by repeat' first|exact trivial|assumption|exact qae _|exact fun _ h => nomatch h|apply And.intro) fun S q pc hS hq hC hE => ?_
   conv => whnf
   repeat ((first|refine qai te ?_|refine qah te ?_|refine pkT te ?_|refine qaa te ?_|refine qai (qax te) ?_|refine qah (qax te) ?_|refine pkT (qax te) ?_|refine qaa (qax te) ?_|refine qac hC (ps) ?_|refine qac hC (p1) ?_|refine qac hC (p2) ?_|refine qac hC (p3) ?_|refine qac hC (p4) ?_|refine qac hC (p5) ?_|refine qac hC (known) ?_|refine qad hS (by kernel_rfl) ?_);conv => whnf)
   exact ⟨_,rfl,Wk.refl _⟩
  ·have p1 :=qpc hx hh hp
   have p2 :=qk2 hx hh
   rw [decide_eq_false hp] at p2
   rcases hx with ⟨rfl,_⟩ | rfl <;> rcases hh with ⟨rfl,_⟩ | rfl
   all_goals
    refine qaq hE rfl (by repeat' first|exact trivial|assumption|exact qae _|exact fun _ h => nomatch h|apply And.intro) (by repeat' first|exact trivial|assumption|exact qae _|exact fun _ h => nomatch h|apply And.intro) fun S q pc hS hq hC hE => ?_
    conv => whnf
    repeat ((first|refine qac hC (ps) ?_|refine qac hC (p1) ?_|refine qac hC (p2) ?_|refine qac hC (known) ?_|refine qad hS (by kernel_rfl) ?_);conv => whnf)
    exact ⟨_,rfl,Wk.refl _⟩
 ·have ps :=qrr hx hh s
  rcases hx with ⟨rfl,_⟩ | rfl <;> rcases hh with ⟨rfl,_⟩ | rfl
  all_goals
   refine qaq hE rfl (by repeat' first|exact trivial|assumption|exact qae _|exact fun _ h => nomatch h|apply And.intro) (by repeat' first|exact trivial|assumption|exact qae _|exact fun _ h => nomatch h|apply And.intro) fun S q pc hS hq hC hE => ?_
   conv => whnf
   repeat ((first|refine qac hC (ps) ?_|refine qac hC (known) ?_|refine qad hS (by kernel_rfl) ?_);conv => whnf)
   exact ⟨_,rfl,Wk.refl _⟩
end
end Go.Abs.Seat
