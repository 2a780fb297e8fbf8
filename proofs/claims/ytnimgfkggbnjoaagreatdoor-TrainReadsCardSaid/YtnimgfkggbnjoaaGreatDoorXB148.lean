/-
  Rules and lists of trains that are the same; short lists.
-/
import Derived.Test.YtnimgfkggbnjoaaGreatDoorXU14
import Derived.Test.YtnimgfkggbnjoaaGreatDoorXU10
namespace Go.Abs.Seat
noncomputable section
open Go Go.Abs Go.Proofs.Tryz
set_option maxRecDepth 100000
set_option maxHeartbeats 40000000
attribute [local irreducible] IntKind.wrap pEq
theorem qt6 {L:List Int} (hl:L.length < 4611686018427387904):Pure prog 30 [nl L,nl L] (.bool true) :=by
 have lL :=qby L
 have c0:((L.length:Int) != (L.length:Int)) = false :=by rw [bne_self_eq_false]
 refine qbg hE rfl (by repeat' first|exact trivial|assumption|exact qa3 _|exact fun _ h => nomatch h|apply And.intro) (by repeat' first|exact trivial|assumption|exact qa3 _|exact fun _ h => nomatch h|apply And.intro) fun S q pc hS hq hC hE => ?_
 conv => whnf
 repeat ((first|refine qa9 c0 ?_|refine qbc c0 ?_|refine pkF c0 ?_|refine qar c0 ?_|refine qaq hS (by kernel_rfl) ?_);conv => whnf)
 refine qbh hE hS (A :=Nat) [0,1] (fun i => [(5,nv i)]) (fun _ => []) (fun _ => []) (fun i => i ≤ L.length) (fun i => L.length - i) 0 (kle rfl) rfl (zhg 0) (Nat.zero_le _) ?_
 intro i hi K hK
 obtain rfl:K = 0 :=hK
 conv => whnf
 by_cases hi2:i < L.length
 ·have hi1:IntKind.i64.wrap (Int.ofNat i + 1) = Int.ofNat (i + 1) :=qbr (m :=i + 1) (by omega)
  have c1:(gi L i != gi L i) = false :=by rw [bne_self_eq_false]
  try have z566:=qbk hi2
  try have z567:=qbf hi2
  repeat ((first|refine qa2 (nthP (qbq (l :=L) (i :=i) hi2)) ?_|refine qa5 ‹_› ?_|refine qa4 ‹_› ?_|refine pkT ‹_› ?_|refine qax ‹_› ?_|refine qa9 ‹_› ?_|refine qbc ‹_› ?_|refine pkF ‹_› ?_|refine qar ‹_› ?_|refine qaq hS (by kernel_rfl) ?_);conv => whnf)
  exact ⟨i + 1,hi2,by omega,kle rfl,(zhg 0)⟩
 ·refine qar (qb9 hi2) ?_
  conv => whnf
  refine .inl ?_
  conv => whnf
  exact ⟨_,rfl,Wk.refl _⟩
theorem qq2:Pure prog 30 [.nils,.nils] (.bool true) :=by
 refine qbg hE rfl (by repeat' first|exact trivial|assumption|exact qa3 _|exact fun _ h => nomatch h|apply And.intro) (by repeat' first|exact trivial|assumption|exact qa3 _|exact fun _ h => nomatch h|apply And.intro) fun S q pc hS hq hC hE => ?_
 conv => whnf
 refine qa6 hE hS ?_
 conv => whnf
 exact ⟨_,rfl,Wk.refl _⟩
theorem qpi {A B:AV} {L:List Int} (hA:IL A L) (hB:IL B L) (hl:L.length < 4611686018427387904):Pure prog 30 [A,B] (.bool true) :=by
 rcases hA with ⟨rfl,e⟩ | rfl <;> rcases hB with ⟨rfl,e2⟩ | rfl
 ·exact qq2
 ·subst e
  refine qbg hE rfl (by repeat' first|exact trivial|assumption|exact qa3 _|exact fun _ h => nomatch h|apply And.intro) (by repeat' first|exact trivial|assumption|exact qa3 _|exact fun _ h => nomatch h|apply And.intro) fun S q pc hS hq hC hE => ?_
  conv => whnf
  refine qa6 hE hS ?_
  conv => whnf
  exact ⟨_,rfl,Wk.refl _⟩
 ·subst e2
  refine qbg hE rfl (by repeat' first|exact trivial|assumption|exact qa3 _|exact fun _ h => nomatch h|apply And.intro) (by repeat' first|exact trivial|assumption|exact qa3 _|exact fun _ h => nomatch h|apply And.intro) fun S q pc hS hq hC hE => ?_
  conv => whnf
  refine qa6 hE hS ?_
  conv => whnf
  exact ⟨_,rfl,Wk.refl _⟩
 ·exact qt6 hl
theorem qph {r:TrR} {A B:AV} {V:List Nat} (hA:IL A (zl V)) (hB:IL B (zl V)) (hl:V.length ≤ 1000):Pure prog 14 [rv r.1 r.2.1 r.2.2.1 r.2.2.2 A,rv r.1 r.2.1 r.2.2.1 r.2.2.2 B] (.bool true) :=by
 have p :=qpi hA hB (by rw [qcd];omega)
 have lA :=hA.no
 have lB :=hB.no
 have t1:((r.1:Int) == (r.1:Int)) = true :=beq_self_eq_true _
 have t2:((r.2.1:Int) == (r.2.1:Int)) = true :=beq_self_eq_true _
 have t3:((r.2.2.1:Int) == (r.2.2.1:Int)) = true :=beq_self_eq_true _
 have t4:((r.2.2.2:Int) == (r.2.2.2:Int)) = true :=beq_self_eq_true _
 rcases hA with ⟨rfl,_⟩ | rfl <;> rcases hB with ⟨rfl,_⟩ | rfl
 all_goals
  refine qbg hE rfl (by repeat' first|exact trivial|assumption|exact qa3 _|exact fun _ h => nomatch h|apply And.intro) (by repeat' first|exact trivial|assumption|exact qa3 _|exact fun _ h => nomatch h|apply And.intro) fun S q pc hS hq hC hE => ?_
  conv => whnf
  repeat ((first|refine qa5 ‹_› ?_|refine qa4 ‹_› ?_|refine pkT ‹_› ?_|refine qax ‹_› ?_|refine qa5 (qcc ‹_›) ?_|refine qa4 (qcc ‹_›) ?_|refine pkT (qcc ‹_›) ?_|refine qax (qcc ‹_›) ?_|refine qav hC (p) ?_|refine qaq hS (by kernel_rfl) ?_);conv => whnf)
  exact ⟨_,rfl,Wk.refl _⟩
theorem qe8:Pure prog 14 [zrR,zrR] (.bool true) :=by
 refine qbg hE rfl (by repeat' first|exact trivial|assumption|exact qa3 _|exact fun _ h => nomatch h|apply And.intro) (by repeat' first|exact trivial|assumption|exact qa3 _|exact fun _ h => nomatch h|apply And.intro) fun S q pc hS hq hC hE => ?_
 conv => whnf
 repeat ((first|refine qav hC (qq2) ?_|refine qaq hS (by kernel_rfl) ?_);conv => whnf)
 exact ⟨_,rfl,Wk.refl _⟩
theorem qpg:Pure prog 31 [.nils,.nils] (.bool true) :=by
 refine qbg hE rfl (by repeat' first|exact trivial|assumption|exact qa3 _|exact fun _ h => nomatch h|apply And.intro) (by repeat' first|exact trivial|assumption|exact qa3 _|exact fun _ h => nomatch h|apply And.intro) fun S q pc hS hq hC hE => ?_
 conv => whnf
 refine qa6 hE hS ?_
 conv => whnf
 exact ⟨_,rfl,Wk.refl _⟩
theorem qpf (t:List (Nat × Nat)) (ht:t.length < 4611686018427387904):Pure prog 31 [xqV t,xqV t] (.bool true) :=by
 by_cases h:t = []
 ·rw [xqV,if_pos h];exact qpg
 ·rw [xqV,if_neg h]
  have k :=qpm t t ht
  rwa [decide_eq_true rfl] at k
theorem qt7 {T:List (List (Nat × Nat))} (hl:T.length < 4611686018427387904) (ht:∀ t,t ∈ T → t.length < 4611686018427387904):Pure prog 15 [.lst (xqs T) T.length .no,.lst (xqs T) T.length .no] (.bool true) :=by
 have lT :=qdt T
 have c0:((T.length:Int) != (T.length:Int)) = false :=by rw [bne_self_eq_false]
 refine qbg hE rfl (by repeat' first|exact trivial|assumption|exact qa3 _|exact fun _ h => nomatch h|apply And.intro) (by repeat' first|exact trivial|assumption|exact qa3 _|exact fun _ h => nomatch h|apply And.intro) fun S q pc hS hq hC hE => ?_
 conv => whnf
 repeat ((first|refine qa9 c0 ?_|refine qbc c0 ?_|refine pkF c0 ?_|refine qar c0 ?_|refine qaq hS (by kernel_rfl) ?_);conv => whnf)
 refine qbh hE hS (A :=Nat) [0,1] (fun i => [(5,nv i)]) (fun _ => []) (fun _ => []) (fun i => i ≤ T.length) (fun i => T.length - i) 0 (kle rfl) rfl (zhg 0) (Nat.zero_le _) ?_
 intro i hi K hK
 obtain rfl:K = 0 :=hK
 conv => whnf
 by_cases hi2:i < T.length
 ·have hi1:IntKind.i64.wrap (Int.ofNat i + 1) = Int.ofNat (i + 1) :=qbr (m :=i + 1) (by omega)
  have gx :=qgj T hi2
  have p :=qpf (gT T i) (ht _ (qhj hi2))
  refine Or.elim (qh4 (gT T i)) (fun hy => ?_) fun hy => Exists.elim hy fun l hy => ?_
  all_goals
   rw [hy] at gx p
   try have z568:=qbk hi2
   try have z569:=qbf hi2
   repeat ((first|refine qa2 (nthP gx) ?_|refine qa5 ‹_› ?_|refine qa4 ‹_› ?_|refine pkT ‹_› ?_|refine qax ‹_› ?_|refine qa9 ‹_› ?_|refine qbc ‹_› ?_|refine pkF ‹_› ?_|refine qar ‹_› ?_|refine qav hC (p) ?_|refine qaq hS (by kernel_rfl) ?_);conv => whnf)
   exact ⟨i + 1,hi2,by omega,kle rfl,(zhg 0)⟩
 ·refine qar (qb9 hi2) ?_
  conv => whnf
  refine .inl ?_
  conv => whnf
  exact ⟨_,rfl,Wk.refl _⟩
theorem qpj {X Y:AV} {T:List (List (Nat × Nat))} (hX:TQ X T) (hY:TQ Y T) (hl:T.length < 4611686018427387904) (ht:∀ t,t ∈ T → t.length < 4611686018427387904):Pure prog 15 [X,Y] (.bool true) :=by
 rcases hX with ⟨rfl,e⟩ | rfl <;> rcases hY with ⟨rfl,e2⟩ | rfl
 ·refine qbg hE rfl (by repeat' first|exact trivial|assumption|exact qa3 _|exact fun _ h => nomatch h|apply And.intro) (by repeat' first|exact trivial|assumption|exact qa3 _|exact fun _ h => nomatch h|apply And.intro) fun S q pc hS hq hC hE => ?_
  conv => whnf
  refine qa6 hE hS ?_
  conv => whnf
  exact ⟨_,rfl,Wk.refl _⟩
 ·subst e
  refine qbg hE rfl (by repeat' first|exact trivial|assumption|exact qa3 _|exact fun _ h => nomatch h|apply And.intro) (by repeat' first|exact trivial|assumption|exact qa3 _|exact fun _ h => nomatch h|apply And.intro) fun S q pc hS hq hC hE => ?_
  conv => whnf
  refine qa6 hE hS ?_
  conv => whnf
  exact ⟨_,rfl,Wk.refl _⟩
 ·subst e2
  refine qbg hE rfl (by repeat' first|exact trivial|assumption|exact qa3 _|exact fun _ h => nomatch h|apply And.intro) (by repeat' first|exact trivial|assumption|exact qa3 _|exact fun _ h => nomatch h|apply And.intro) fun S q pc hS hq hC hE => ?_
  conv => whnf
  refine qa6 hE hS ?_
  conv => whnf
  exact ⟨_,rfl,Wk.refl _⟩
 ·exact qt7 hl ht
theorem qyk (T:List (List (Nat × Nat))):TQ (xqT T) T :=by
 unfold xqT
 split
 ·rename_i e;exact .inl ⟨rfl,e⟩
 ·exact .inr rfl
end
end Go.Abs.Seat
