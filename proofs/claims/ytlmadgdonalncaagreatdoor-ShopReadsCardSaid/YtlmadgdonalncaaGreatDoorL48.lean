/-
  The law ShopReads.
-/
import Derived.Test.YtlmadgdonalncaaGreatDoorU15
namespace Go.Abs.Seat
noncomputable section
open Go Go.Abs Go.Proofs.Tryz
set_option maxRecDepth 100000
set_option maxHeartbeats 40000000
attribute [local irreducible] IntKind.wrap pEq
theorem reads_law (known:Pure prog 13 [] (.bool true)) (s:List UInt8):Pure prog 11 [.str s] (.bool true) :=by
 by_cases h3:300 < s.length
 ·have e:decide ((s.length:Int) > 300) = true :=decide_eq_true (by omega)
  refine qas hE rfl (by repeat' first|exact trivial|assumption|exact qah _|exact fun _ h => nomatch h|apply And.intro) (by repeat' first|exact trivial|assumption|exact qah _|exact fun _ h => nomatch h|apply And.intro) fun S q pc hS hq hC hE => ?_
  conv => whnf
  repeat ((first|refine qag e ?_|refine qaf e ?_|refine pkT e ?_|refine qaa e ?_|refine qac hC (known) ?_|refine qad hS (by kernel_rfl) ?_);conv => whnf)
  exact ⟨_,rfl,Wk.refl _⟩
 have e3:decide ((s.length:Int) > 300) = false :=decide_eq_false (by omega)
 have hs:s.length ≤ 300 :=by omega
 by_cases h2:200 < s.length
 ·have e2:decide ((s.length:Int) > 200) = true :=decide_eq_true (by omega)
  have p1 :=qoi h2
  by_cases ht:∃ N H,isT s N H
  ·obtain ⟨N,H,ht⟩ :=ht
   have p2 :=qkv hs ht
   have hx :=qu8 N
   have hy :=qu7 H
   obtain ⟨v,ev⟩ : ∃ v,v = xN N :=⟨_,rfl⟩
   obtain ⟨w,ew⟩ : ∃ w,w = yH H :=⟨_,rfl⟩
   rw [← ev,← ew] at p2
   rw [← ev] at hx
   rw [← ew] at hy
   have lX :=hx.no
   have lY :=hy.no
   clear ev ew
   rcases hx with ⟨rfl,_⟩ | rfl <;> rcases hy with ⟨rfl,_⟩ | rfl
   all_goals
    refine qas hE rfl (by repeat' first|exact trivial|assumption|exact qah _|exact fun _ h => nomatch h|apply And.intro) (by repeat' first|exact trivial|assumption|exact qah _|exact fun _ h => nomatch h|apply And.intro) fun S q pc hS hq hC hE => ?_
    conv => whnf
    repeat ((first|refine qal e3 ?_|refine qam e3 ?_|refine pkF e3 ?_|refine qab e3 ?_|refine qag e2 ?_|refine qaf e2 ?_|refine pkT e2 ?_|refine qaa e2 ?_|refine qac hC (p1) ?_|refine qac hC (p2) ?_|refine qac hC (qft) ?_|refine qac hC (known) ?_|refine qad hS (by kernel_rfl) ?_);conv => whnf)
    exact ⟨_,rfl,Wk.refl _⟩
  ·have p2 :=qm9 hs ht
   refine qas hE rfl (by repeat' first|exact trivial|assumption|exact qah _|exact fun _ h => nomatch h|apply And.intro) (by repeat' first|exact trivial|assumption|exact qah _|exact fun _ h => nomatch h|apply And.intro) fun S q pc hS hq hC hE => ?_
   conv => whnf
   repeat ((first|refine qal e3 ?_|refine qam e3 ?_|refine pkF e3 ?_|refine qab e3 ?_|refine qag e2 ?_|refine qaf e2 ?_|refine pkT e2 ?_|refine qaa e2 ?_|refine qac hC (p1) ?_|refine qac hC (p2) ?_|refine qac hC (qft) ?_|refine qac hC (known) ?_|refine qad hS (by kernel_rfl) ?_);conv => whnf)
   exact ⟨_,rfl,Wk.refl _⟩
 have e2:decide ((s.length:Int) > 200) = false :=decide_eq_false (by omega)
 have h2:s.length ≤ 200 :=by omega
 by_cases ht:∃ N H,isT s N H
 ·obtain ⟨N,H,ht⟩ :=ht
  have p2 :=qkv hs ht
  by_cases hp:pcOk (cL N) (zl H)
  ·have hp2:pcN N H :=by
    obtain ⟨N',H',a,b,c⟩ :=qxk hp
    obtain rfl :=quy a
    obtain rfl :=qt6 b
    exact c
   have p1 :=qsu h2 ht hp2
   rw [hp2.x,hp2.y] at p2
   have p3 :=hp2.rP
   have p4 :=qp9 hp2
   have p5 :=qog hp2
   have te:(prtB N H == s) = true :=beq_iff_eq.2 ht.2.2
   have lX :=qa5 (cL N)
   have lY :=qav (zl H)
   refine qas hE rfl (by repeat' first|exact trivial|assumption|exact qah _|exact fun _ h => nomatch h|apply And.intro) (by repeat' first|exact trivial|assumption|exact qah _|exact fun _ h => nomatch h|apply And.intro) fun S q pc hS hq hC hE => ?_
   conv => whnf
   repeat ((first|refine qal e3 ?_|refine qam e3 ?_|refine pkF e3 ?_|refine qab e3 ?_|refine qal e2 ?_|refine qam e2 ?_|refine pkF e2 ?_|refine qab e2 ?_|refine qag te ?_|refine qaf te ?_|refine pkT te ?_|refine qaa te ?_|refine qag (qaq te) ?_|refine qaf (qaq te) ?_|refine pkT (qaq te) ?_|refine qaa (qaq te) ?_|refine qac hC (p1) ?_|refine qac hC (p2) ?_|refine qac hC (p3) ?_|refine qac hC (p4) ?_|refine qac hC (p5) ?_|refine qac hC (known) ?_|refine qad hS (by kernel_rfl) ?_);conv => whnf)
   exact ⟨_,rfl,Wk.refl _⟩
  ·have p1 :=qp8 h2 ht hp
   have hx :=qu8 N
   have hy :=qu7 H
   obtain ⟨v,ev⟩ : ∃ v,v = xN N :=⟨_,rfl⟩
   obtain ⟨w,ew⟩ : ∃ w,w = yH H :=⟨_,rfl⟩
   rw [← ev,← ew] at p2
   rw [← ev] at hx
   rw [← ew] at hy
   have p3 :=qlt hx hy
   rw [decide_eq_false hp] at p3
   have lX :=hx.no
   have lY :=hy.no
   clear ev ew
   rcases hx with ⟨rfl,_⟩ | rfl <;> rcases hy with ⟨rfl,_⟩ | rfl
   all_goals
    refine qas hE rfl (by repeat' first|exact trivial|assumption|exact qah _|exact fun _ h => nomatch h|apply And.intro) (by repeat' first|exact trivial|assumption|exact qah _|exact fun _ h => nomatch h|apply And.intro) fun S q pc hS hq hC hE => ?_
    conv => whnf
    repeat ((first|refine qal e3 ?_|refine qam e3 ?_|refine pkF e3 ?_|refine qab e3 ?_|refine qal e2 ?_|refine qam e2 ?_|refine pkF e2 ?_|refine qab e2 ?_|refine qac hC (p1) ?_|refine qac hC (p2) ?_|refine qac hC (p3) ?_|refine qac hC (qft) ?_|refine qac hC (known) ?_|refine qad hS (by kernel_rfl) ?_);conv => whnf)
    exact ⟨_,rfl,Wk.refl _⟩
 ·have p1 :=qoh h2 ht
  have p2 :=qm9 hs ht
  refine qas hE rfl (by repeat' first|exact trivial|assumption|exact qah _|exact fun _ h => nomatch h|apply And.intro) (by repeat' first|exact trivial|assumption|exact qah _|exact fun _ h => nomatch h|apply And.intro) fun S q pc hS hq hC hE => ?_
  conv => whnf
  repeat ((first|refine qal e3 ?_|refine qam e3 ?_|refine pkF e3 ?_|refine qab e3 ?_|refine qal e2 ?_|refine qam e2 ?_|refine pkF e2 ?_|refine qab e2 ?_|refine qac hC (p1) ?_|refine qac hC (p2) ?_|refine qac hC (qft) ?_|refine qac hC (known) ?_|refine qad hS (by kernel_rfl) ?_);conv => whnf)
  exact ⟨_,rfl,Wk.refl _⟩
end
end Go.Abs.Seat
