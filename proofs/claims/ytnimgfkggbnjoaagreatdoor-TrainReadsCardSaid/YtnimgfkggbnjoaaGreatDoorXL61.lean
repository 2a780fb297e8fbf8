/-
  The law TrainReads.
-/
import Derived.Test.YtnimgfkggbnjoaaGreatDoorXL60
import Derived.Test.YtnimgfkggbnjoaaGreatDoorXB149
namespace Go.Abs.Seat
noncomputable section
open Go Go.Abs Go.Proofs.Tryz
set_option maxRecDepth 100000
set_option maxHeartbeats 40000000
attribute [local irreducible] IntKind.wrap pEq
theorem readsT_law (known:Pure prog 8 [] (.bool true)) (s:List UInt8):Pure prog 4 [.str s] (.bool true) :=by
 by_cases h5:500 < s.length
 ·have e:decide ((s.length:Int) > 500) = true :=decide_eq_true (by omega)
  refine qbg hE rfl (by repeat' first|exact trivial|assumption|exact qa3 _|exact fun _ h => nomatch h|apply And.intro) (by repeat' first|exact trivial|assumption|exact qa3 _|exact fun _ h => nomatch h|apply And.intro) fun S q pc hS hq hC hE => ?_
  conv => whnf
  repeat ((first|refine qa5 e ?_|refine qa4 e ?_|refine pkT e ?_|refine qax e ?_|refine qav hC (known) ?_|refine qaq hS (by kernel_rfl) ?_);conv => whnf)
  exact ⟨_,rfl,Wk.refl _⟩
 have e5:decide ((s.length:Int) > 500) = false :=decide_eq_false (by omega)
 have hs:s.length ≤ 500 :=by omega
 rcases qmk hs with ⟨r,V,T,hU,p2⟩ | ⟨hU,p2⟩
 rotate_left
 ·by_cases h4:400 < s.length
  ·have e4:decide ((s.length:Int) > 400) = true :=decide_eq_true (by omega)
   have p1 :=qja h4
   refine qbg hE rfl (by repeat' first|exact trivial|assumption|exact qa3 _|exact fun _ h => nomatch h|apply And.intro) (by repeat' first|exact trivial|assumption|exact qa3 _|exact fun _ h => nomatch h|apply And.intro) fun S q pc hS hq hC hE => ?_
   conv => whnf
   repeat ((first|refine qa5 ‹_› ?_|refine qa4 ‹_› ?_|refine pkT ‹_› ?_|refine qax ‹_› ?_|refine qa9 ‹_› ?_|refine qbc ‹_› ?_|refine pkF ‹_› ?_|refine qar ‹_› ?_|refine qav hC (p1) ?_|refine qav hC (p2) ?_|refine qav hC (qe8) ?_|refine qav hC (known) ?_|refine qaq hS (by kernel_rfl) ?_);conv => whnf)
   exact ⟨_,rfl,Wk.refl _⟩
  ·have e4:decide ((s.length:Int) > 400) = false :=decide_eq_false (by omega)
   have p1 :=qpc (by omega) hU
   refine qbg hE rfl (by repeat' first|exact trivial|assumption|exact qa3 _|exact fun _ h => nomatch h|apply And.intro) (by repeat' first|exact trivial|assumption|exact qa3 _|exact fun _ h => nomatch h|apply And.intro) fun S q pc hS hq hC hE => ?_
   conv => whnf
   repeat ((first|refine qa9 ‹_› ?_|refine qbc ‹_› ?_|refine pkF ‹_› ?_|refine qar ‹_› ?_|refine qav hC (p1) ?_|refine qav hC (p2) ?_|refine qav hC (qe8) ?_|refine qav hC (known) ?_|refine qaq hS (by kernel_rfl) ?_);conv => whnf)
   exact ⟨_,rfl,Wk.refl _⟩
 have hN :=qem V
 have hX :=qqi T
 have hX2 :=qyk T
 have hVl:V.length ≤ 1000 :=by
  have k :=(qee hU).l1
  have k2 :=qiq hs 1
  have k3 :=qc7 32 (gB (spl 10 s) 1)
  rw [k,qgk hU.1.2.1,List.length_cons,List.length_map,← k] at k3
  omega
 have hTl:T.length ≤ 1000 :=by
  have k :=(qee hU).len
  have k3 :=qc7 10 s
  omega
 have htl:∀ t,t ∈ T → t.length ≤ 1000 :=fun t ht => by
  obtain ⟨i,hi,e⟩ :=List.getElem_of_mem ht
  have g:gT T i = t :=by rw [← e];simp [gT,List.getD,hi]
  have k :=(qee hU).lT i hi
  rw [g] at k
  have k2 :=qiq hs (i + 2)
  have k3 :=qc7 32 (gB (spl 10 s) (i + 2))
  rw [k,qg7 (hU.1.2.2 t ht),List.length_cons,List.length_map,qbi,← k] at k3
  omega
 by_cases h4:400 < s.length
 ·have e4:decide ((s.length:Int) > 400) = true :=decide_eq_true (by omega)
  have p1 :=qja h4
  obtain ⟨N2,eN⟩ : ∃ N,N = nlV V :=⟨_,rfl⟩
  obtain ⟨X2,eX⟩ : ∃ X,X = xqT T :=⟨_,rfl⟩
  rw [← eN] at hN p2
  rw [← eX] at hX2 p2
  have lN2 :=hN.no
  have lX2 :=hX2.no
  clear eN eX hX
  rcases hN with ⟨rfl,_⟩ | rfl <;> rcases hX2 with ⟨rfl,_⟩ | rfl
  all_goals
   refine qbg hE rfl (by repeat' first|exact trivial|assumption|exact qa3 _|exact fun _ h => nomatch h|apply And.intro) (by repeat' first|exact trivial|assumption|exact qa3 _|exact fun _ h => nomatch h|apply And.intro) fun S q pc hS hq hC hE => ?_
   conv => whnf
   repeat ((first|refine qa5 ‹_› ?_|refine qa4 ‹_› ?_|refine pkT ‹_› ?_|refine qax ‹_› ?_|refine qa9 ‹_› ?_|refine qbc ‹_› ?_|refine pkF ‹_› ?_|refine qar ‹_› ?_|refine qav hC (p1) ?_|refine qav hC (p2) ?_|refine qav hC (qe8) ?_|refine qav hC (known) ?_|refine qaq hS (by kernel_rfl) ?_);conv => whnf)
   exact ⟨_,rfl,Wk.refl _⟩
 have e4:decide ((s.length:Int) > 400) = false :=decide_eq_false (by omega)
 have hl2:(zl V).length < 4611686018427387904 :=by rw [qcd];omega
 have hT2:(T.map zp).length < 4611686018427387904 :=by rw [List.length_map];omega
 have hll:∀ i,i < (T.map zp).length → (gLs (T.map zp) i).length < 4611686018427387904 :=fun i hi => by
  rw [List.length_map] at hi
  have g:gLs (T.map zp) i = zp T[i] :=by simp [gLs,List.getD,hi]
  rw [g,qew]
  have :=htl _ (List.getElem_mem hi)
  omega
 by_cases hr:rOk r.1 r.2.1 r.2.2.1 r.2.2.2 (zl V)
 rotate_left
 ·have p1 :=qlc (by omega) hU hVl hTl fun z => hr z.rule
  have p3 :=qw0 hN hl2 hr
  obtain ⟨N2,eN⟩ : ∃ N,N = nlV V :=⟨_,rfl⟩
  obtain ⟨X2,eX⟩ : ∃ X,X = xqT T :=⟨_,rfl⟩
  rw [← eN] at hN p2 p3
  rw [← eX] at hX2 p2
  have lN2 :=hN.no
  have lX2 :=hX2.no
  clear eN eX hX
  rcases hN with ⟨rfl,_⟩ | rfl <;> rcases hX2 with ⟨rfl,_⟩ | rfl
  all_goals
   refine qbg hE rfl (by repeat' first|exact trivial|assumption|exact qa3 _|exact fun _ h => nomatch h|apply And.intro) (by repeat' first|exact trivial|assumption|exact qa3 _|exact fun _ h => nomatch h|apply And.intro) fun S q pc hS hq hC hE => ?_
   conv => whnf
   repeat ((first|refine qa9 ‹_› ?_|refine qbc ‹_› ?_|refine pkF ‹_› ?_|refine qar ‹_› ?_|refine qav hC (p1) ?_|refine qav hC (p2) ?_|refine qav hC (p3) ?_|refine qav hC (qe8) ?_|refine qav hC (known) ?_|refine qaq hS (by kernel_rfl) ?_);conv => whnf)
   exact ⟨_,rfl,Wk.refl _⟩
 have p3 :=qwz hN hl2 hr
 by_cases ht:okTs (T.map zp)
 rotate_left
 ·have p1 :=qlc (by omega) hU hVl hTl fun z => ht z.trains
  have p4 :=qyn hX hT2 hll ht
  obtain ⟨N2,eN⟩ : ∃ N,N = nlV V :=⟨_,rfl⟩
  obtain ⟨X2,eX⟩ : ∃ X,X = xqT T :=⟨_,rfl⟩
  rw [← eN] at hN p2 p3
  rw [← eX] at hX2 p2 p4
  have lN2 :=hN.no
  have lX2 :=hX2.no
  clear eN eX hX
  rcases hN with ⟨rfl,_⟩ | rfl <;> rcases hX2 with ⟨rfl,_⟩ | rfl
  all_goals
   refine qbg hE rfl (by repeat' first|exact trivial|assumption|exact qa3 _|exact fun _ h => nomatch h|apply And.intro) (by repeat' first|exact trivial|assumption|exact qa3 _|exact fun _ h => nomatch h|apply And.intro) fun S q pc hS hq hC hE => ?_
   conv => whnf
   repeat ((first|refine qa9 ‹_› ?_|refine qbc ‹_› ?_|refine pkF ‹_› ?_|refine qar ‹_› ?_|refine qav hC (p1) ?_|refine qav hC (p2) ?_|refine qav hC (p3) ?_|refine qav hC (p4) ?_|refine qav hC (qe8) ?_|refine qav hC (known) ?_|refine qaq hS (by kernel_rfl) ?_);conv => whnf)
   exact ⟨_,rfl,Wk.refl _⟩
 have hq:OkQ r V T :=⟨hr,ht⟩
 have p4 :=qym hX hT2 hll ht
 have p1 :=qt0 (by omega) hU hq
 have p5 :=qqr hq hN hX
 have p6 :=qph (r :=r) hN hN (by omega)
 have p7 :=qpj hX2 hX2 (by omega) (fun t ht => by have :=htl t ht;omega)
 rw [hU.2] at p5
 have te:(s == s) = true :=beq_self_eq_true _
 obtain ⟨N2,eN⟩ : ∃ N,N = nlV V :=⟨_,rfl⟩
 obtain ⟨X2,eX⟩ : ∃ X,X = xqT T :=⟨_,rfl⟩
 rw [← eN] at hN p1 p2 p3 p5 p6
 rw [← eX] at hX2 p1 p2 p4 p5 p7
 have lN2 :=hN.no
 have lX2 :=hX2.no
 clear eN eX hX
 rcases hN with ⟨rfl,_⟩ | rfl <;> rcases hX2 with ⟨rfl,_⟩ | rfl
 all_goals
  refine qbg hE rfl (by repeat' first|exact trivial|assumption|exact qa3 _|exact fun _ h => nomatch h|apply And.intro) (by repeat' first|exact trivial|assumption|exact qa3 _|exact fun _ h => nomatch h|apply And.intro) fun S q pc hS hq hC hE => ?_
  conv => whnf
  repeat ((first|refine qa5 ‹_› ?_|refine qa4 ‹_› ?_|refine pkT ‹_› ?_|refine qax ‹_› ?_|refine qa9 ‹_› ?_|refine qbc ‹_› ?_|refine pkF ‹_› ?_|refine qar ‹_› ?_|refine qa5 (qcc ‹_›) ?_|refine qa4 (qcc ‹_›) ?_|refine pkT (qcc ‹_›) ?_|refine qax (qcc ‹_›) ?_|refine qav hC (p1) ?_|refine qav hC (p2) ?_|refine qav hC (p3) ?_|refine qav hC (p4) ?_|refine qav hC (p5) ?_|refine qav hC (p6) ?_|refine qav hC (p7) ?_|refine qav hC (known) ?_|refine qaq hS (by kernel_rfl) ?_);conv => whnf)
  exact ⟨_,rfl,Wk.refl _⟩
end
end Go.Abs.Seat
