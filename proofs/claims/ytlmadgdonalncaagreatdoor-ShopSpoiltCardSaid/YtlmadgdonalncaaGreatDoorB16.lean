/-
  Pieces as defined, as the document tells it.
-/
import Derived.Test.YtlmadgdonalncaaGreatDoorU10
namespace Go.Abs.Seat
noncomputable section
open Go Go.Abs Go.Proofs.Tryz
set_option maxRecDepth 100000
set_option maxHeartbeats 40000000
attribute [local irreducible] IntKind.wrap pEq
theorem qe2 (a b:Int):Pure prog 91 [.agg [iv a,iv b]] (.bool (decide (tth a ∧ tth b))) :=by
 by_cases h:tth a
 ·have c1:decide (tth a) = true :=decide_eq_true h
  refine qan hE rfl (by repeat' first|exact trivial|assumption|exact qae _|exact fun _ h => nomatch h|apply And.intro) (by repeat' first|exact trivial|assumption|exact qae _|exact fun _ h => nomatch h|apply And.intro) fun S q pc hS hq hC hE => ?_
  conv => whnf
  repeat ((first|refine qaj c1 ?_|refine qai c1 ?_|refine pkT c1 ?_|refine qaa c1 ?_|refine qab hC (qe1 a) ?_|refine qab hC (qe1 b) ?_|refine qad hS (by kernel_rfl) ?_);conv => whnf)
  exact ⟨_,rfl,wkb (by simp [h])⟩
 ·have c1:decide (tth a) = false :=decide_eq_false h
  refine qan hE rfl (by repeat' first|exact trivial|assumption|exact qae _|exact fun _ h => nomatch h|apply And.intro) (by repeat' first|exact trivial|assumption|exact qae _|exact fun _ h => nomatch h|apply And.intro) fun S q pc hS hq hC hE => ?_
  conv => whnf
  repeat ((first|refine qar c1 ?_|refine qas c1 ?_|refine pkF c1 ?_|refine qac c1 ?_|refine qab hC (qe1 a) ?_|refine qad hS (by kernel_rfl) ?_);conv => whnf)
  exact ⟨_,rfl,wkb (by simp [h])⟩
theorem qk0 (L:List LkI) (M:List Int) (n:Int):Pure prog 93 [.agg [lkA L,nl M],iv n] (.bool (decide (1 ≤ n ∧ n ≤ (L.length:Int)))) :=by
 have lL :=lkA_no L
 have lLs :=qa5 L
 have lM :=qau M
 refine qan hE rfl (by repeat' first|exact trivial|assumption|exact qae _|exact fun _ h => nomatch h|apply And.intro) (by repeat' first|exact trivial|assumption|exact qae _|exact fun _ h => nomatch h|apply And.intro) fun S q pc hS hq hC hE => ?_
 conv => whnf
 refine qab hC (qb3 n 1 L.length) ?_
 conv => whnf
 exact ⟨_,rfl,Wk.refl _⟩
theorem qpi {x h:AV} {L:List LkI} {M:List Int} (hx:LL x L) (hh:IL h M) (hn:¬ ((1 ≤ L.length ∧ L.length ≤ 5) ∧ (1 ≤ M.length ∧ M.length ≤ 4))) :
  Pure prog 43 [.agg [x,h]] (.bool false) :=by
 have lx :=hx.no
 have lh :=hh.no
 by_cases h1:1 ≤ L.length ∧ L.length ≤ 5
 ·have h2:¬ (1 ≤ M.length ∧ M.length ≤ 4) :=fun k => hn ⟨h1,k⟩
  have c1:(!decide (1 ≤ (L.length:Int) ∧ (L.length:Int) ≤ 5)) = false :=nt_t (decide_eq_true (by omega))
  rcases hx with ⟨_,rfl⟩ | rfl
  ·exact absurd h1.1 (by decide)
  rcases hh with ⟨rfl,rfl⟩ | rfl
  ·refine qan hE rfl (by repeat' first|exact trivial|assumption|exact qae _|exact fun _ h => nomatch h|apply And.intro) (by repeat' first|exact trivial|assumption|exact qae _|exact fun _ h => nomatch h|apply And.intro) fun S q pc hS hq hC hE => ?_
   conv => whnf
   repeat ((first|refine qar c1 ?_|refine qas c1 ?_|refine pkF c1 ?_|refine qac c1 ?_|refine qab hC (qb3 L.length 1 5) ?_|refine qab hC (qb3 0 1 4) ?_|refine qad hS (by kernel_rfl) ?_);conv => whnf)
   exact ⟨_,rfl,Wk.refl _⟩
  ·have c2:(!decide (1 ≤ (M.length:Int) ∧ (M.length:Int) ≤ 4)) = true :=nt_f (decide_eq_false (by omega))
   refine qan hE rfl (by repeat' first|exact trivial|assumption|exact qae _|exact fun _ h => nomatch h|apply And.intro) (by repeat' first|exact trivial|assumption|exact qae _|exact fun _ h => nomatch h|apply And.intro) fun S q pc hS hq hC hE => ?_
   conv => whnf
   repeat ((first|refine qaj ‹_› ?_|refine qai ‹_› ?_|refine pkT ‹_› ?_|refine qaa ‹_› ?_|refine qar ‹_› ?_|refine qas ‹_› ?_|refine pkF ‹_› ?_|refine qac ‹_› ?_|refine qab hC (qb3 L.length 1 5) ?_|refine qab hC (qb3 M.length 1 4) ?_|refine qad hS (by kernel_rfl) ?_);conv => whnf)
   exact ⟨_,rfl,Wk.refl _⟩
 ·rcases hx with ⟨rfl,rfl⟩ | rfl
  ·rcases hh with ⟨rfl,rfl⟩ | rfl
   all_goals
    refine qan hE rfl (by repeat' first|exact trivial|assumption|exact qae _|exact fun _ h => nomatch h|apply And.intro) (by repeat' first|exact trivial|assumption|exact qae _|exact fun _ h => nomatch h|apply And.intro) fun S q pc hS hq hC hE => ?_
    conv => whnf
    repeat ((first|refine qaj h1 ?_|refine qai h1 ?_|refine pkT h1 ?_|refine qaa h1 ?_|refine qar h1 ?_|refine qas h1 ?_|refine pkF h1 ?_|refine qac h1 ?_|refine qab hC (qb3 0 1 5) ?_|refine qad hS (by kernel_rfl) ?_);conv => whnf)
    exact ⟨_,rfl,Wk.refl _⟩
  ·have c1:(!decide (1 ≤ (L.length:Int) ∧ (L.length:Int) ≤ 5)) = true :=nt_f (decide_eq_false (by omega))
   rcases hh with ⟨rfl,rfl⟩ | rfl
   all_goals
    refine qan hE rfl (by repeat' first|exact trivial|assumption|exact qae _|exact fun _ h => nomatch h|apply And.intro) (by repeat' first|exact trivial|assumption|exact qae _|exact fun _ h => nomatch h|apply And.intro) fun S q pc hS hq hC hE => ?_
    conv => whnf
    repeat ((first|refine qaj c1 ?_|refine qai c1 ?_|refine pkT c1 ?_|refine qaa c1 ?_|refine qab hC (qb3 L.length 1 5) ?_|refine qad hS (by kernel_rfl) ?_);conv => whnf)
    exact ⟨_,rfl,Wk.refl _⟩
theorem qnr (L:List LkI) (M:List Int) (h1:1 ≤ L.length ∧ L.length ≤ 5) (h2:1 ≤ M.length ∧ M.length ≤ 4):Pure prog 43 [.agg [lkA L,nl M]] (.bool (decide (pcOk L M))) :=by
 have lL :=lkA_no L
 have lM :=qau M
 have lLs :=qa5 L
 have c1:(!decide (1 ≤ (L.length:Int) ∧ (L.length:Int) ≤ 5)) = false :=nt_t (decide_eq_true (by omega))
 have c2:(!decide (1 ≤ (M.length:Int) ∧ (M.length:Int) ≤ 4)) = false :=nt_t (decide_eq_true (by omega))
 refine qan hE rfl (by repeat' first|exact trivial|assumption|exact qae _|exact fun _ h => nomatch h|apply And.intro) (by repeat' first|exact trivial|assumption|exact qae _|exact fun _ h => nomatch h|apply And.intro) fun S q pc hS hq hC hE => ?_
 conv => whnf
 repeat ((first|refine qar ‹_› ?_|refine qas ‹_› ?_|refine pkF ‹_› ?_|refine qac ‹_› ?_|refine qab hC (qb3 L.length 1 5) ?_|refine qab hC (qb3 M.length 1 4) ?_|refine qad hS (by kernel_rfl) ?_);conv => whnf)
 refine qe7 hE hS (A :=List Lk) [1] (fun N => [(3,nv N.length)]) (fun _ => []) (fun N => N.length ≤ L.length ∧ cL N = L.take N.length ∧ okN N) (fun N => L.length - N.length) [] rfl rfl (by refine ⟨rfl,rfl,rfl,rfl,?_,?_⟩ <;> repeat' (first|exact trivial|exact rfl|exact Nat.zero_le _|exact bz lL|exact bz lM|exact kle rfl|exact qaf (by assumption)|exact qaf (qae _)|exact qaf (qau _)|exact mxI rfl|apply And.intro)) ⟨Nat.zero_le _,rfl,⟨fun _ h => absurd h (Nat.not_lt_zero _),fun _ h => absurd h (Nat.not_lt_zero _),fun _ h => absurd h (Nat.not_lt_zero _),fun _ h => absurd h (Nat.not_lt_zero _)⟩⟩ ?_
 rintro N ⟨hl,he,hN⟩
 conv => whnf
 by_cases hi:N.length < L.length
 ·refine qaa (qag hi) ?_
  conv => whnf
  refine qaa (qaq hi) ?_
  conv => whnf
  have h0 :=qg4 L N.length hi
  have ht :=qox L hi
  have hno:¬ lkAt N (gL L N.length) → decide (pcOk L M) = false :=fun k => decide_eq_false fun z => lkAt.not hi he.symm k z.2.1
  have htk :=qow L hi
  unfold lkAt at hno
  revert h0 ht hno htk
  generalize gL L N.length = y
  obtain ⟨a,b,c⟩ :=y
  intro h0 ht hno htk
  have h0:nth (lks L) (N.length * 3 + 0) = some (iv a) :=h0
  refine qal (nthP h0) ?_
  conv => whnf
  by_cases q1:0 ≤ a ∧ a ≤ (N.length:Int)
  ·have d1:(!decide (0 ≤ a ∧ a ≤ Int.ofNat N.length)) = false :=nt_t (decide_eq_true q1)
   obtain ⟨f,rfl⟩ : ∃ f:Nat,a = Int.ofNat f :=⟨a.toNat,(Int.toNat_of_nonneg q1.1).symm⟩
   have hf:f ≤ N.length :=Int.ofNat_le.1 q1.2
   by_cases q2:tth b ∧ tth c
   ·have d2:(!decide (tth b ∧ tth c)) = false :=nt_t (decide_eq_true q2)
    obtain ⟨b,rfl⟩ : ∃ f:Nat,b = Int.ofNat f :=⟨b.toNat,(Int.toNat_of_nonneg (Int.le_trans (by decide) q2.1.1)).symm⟩
    obtain ⟨c,rfl⟩ : ∃ f:Nat,c = Int.ofNat f :=⟨c.toNat,(Int.toNat_of_nonneg (Int.le_trans (by decide) q2.2.1)).symm⟩
    have hM:cL (N ++ [(f,b,c)]) = L.take (N.length + 1) :=by rw [qna,htk,he];rfl
    have hlen:(N ++ [(f,b,c)]).length = N.length + 1 :=by rw [List.length_append];rfl
    have hT :=qmg (L :=L) (M :=M) (N :=N ++ [(f,b,c)]) (by rw [hlen];exact hM) (by omega) (by omega) (qig hN.wf (x :=(f,b,c)) hf) (N.length + 1) (N.length + 1) (Nat.le_refl _) (by omega)
    rw [qgo hN.wf (x :=(f,b,c)) hf,qou] at hT
    have hw:IntKind.i64.wrap (Int.ofNat N.length + 1) = Int.ofNat (N.length + 1) :=qaz (m :=N.length + 1) (by omega)
    have lT :=qae (zp (tr N f ++ [(b,c)]))
    have zT:(zp (tr N f ++ [(b,c)])).length = (tr N f).length + 1 :=by rw [qcj,List.length_append];rfl
    have hT:Pure prog 92 [.agg [lkA L,nl M],iv (IntKind.i64.wrap (Int.ofNat N.length + 1))] (pv (zp (tr N f ++ [(b,c)]))) :=by rw [hw];exact hT
    by_cases q3:(tr N f).length ≤ 2
    ·have d3:decide (((zp (tr N f ++ [(b,c)])).length:Int) > 3) = false :=decide_eq_false (by rw [zT];omega)
     try have z1:=qaq hi
     repeat ((first|refine qal (takP ht) ?_|refine qaj ‹_› ?_|refine qai ‹_› ?_|refine pkT ‹_› ?_|refine qaa ‹_› ?_|refine qar ‹_› ?_|refine qas ‹_› ?_|refine pkF ‹_› ?_|refine qac ‹_› ?_|refine qaj (gff ‹_›) ?_|refine qai (gff ‹_›) ?_|refine pkT (gff ‹_›) ?_|refine qaa (gff ‹_›) ?_|refine qab hC (qb3 (Int.ofNat f) 0 (Int.ofNat N.length)) ?_|refine qab hC (qe2 (Int.ofNat b) (Int.ofNat c)) ?_|refine qab hC (hT) ?_|refine qad hS (by kernel_rfl) ?_);conv => whnf)
     obtain ⟨M2,e1,k1,e2⟩ :=lkAt.next hN (x :=(Int.ofNat f,Int.ofNat b,Int.ofNat c)) ⟨q1,q2,q3⟩
     have hw2:IntKind.i64.wrap (Int.ofNat N.length + 1) = Int.ofNat M2.length :=by rw [e2];exact hw
     exact ⟨M2,⟨by omega,by rw [e1,e2,htk,he],k1⟩,by omega,(by refine ⟨rfl,rfl,rfl,rfl,?_,?_⟩ <;> repeat' (first|exact trivial|exact rfl|exact Nat.zero_le _|exact congrArg (fun z => some (AV.int .i64 z)) hw2|exact bz lL|exact bz lM|exact kle rfl|exact qaf (by assumption)|exact qaf (qae _)|exact qaf (qau _)|exact mxI rfl|apply And.intro))⟩
    ·have d3:decide (((zp (tr N f ++ [(b,c)])).length:Int) > 3) = true :=decide_eq_true (by rw [zT];omega)
     rw [hno fun k => q3 k.2.2]
     try have z2:=qaq hi
     repeat ((first|refine qal (takP ht) ?_|refine qaj ‹_› ?_|refine qai ‹_› ?_|refine pkT ‹_› ?_|refine qaa ‹_› ?_|refine qar ‹_› ?_|refine qas ‹_› ?_|refine pkF ‹_› ?_|refine qac ‹_› ?_|refine qaj (gff ‹_›) ?_|refine qai (gff ‹_›) ?_|refine pkT (gff ‹_›) ?_|refine qaa (gff ‹_›) ?_|refine qab hC (qb3 (Int.ofNat f) 0 (Int.ofNat N.length)) ?_|refine qab hC (qe2 (Int.ofNat b) (Int.ofNat c)) ?_|refine qab hC (hT) ?_|refine qad hS (by kernel_rfl) ?_);conv => whnf)
     exact ⟨_,rfl,Wk.refl _⟩
   ·have d2:(!decide (tth b ∧ tth c)) = true :=nt_f (decide_eq_false q2)
    rw [hno fun k => q2 k.2.1]
    try have z3:=qaq hi
    repeat ((first|refine qal (takP ht) ?_|refine qaj ‹_› ?_|refine qai ‹_› ?_|refine pkT ‹_› ?_|refine qaa ‹_› ?_|refine qar ‹_› ?_|refine qas ‹_› ?_|refine pkF ‹_› ?_|refine qac ‹_› ?_|refine qaj (gff ‹_›) ?_|refine qai (gff ‹_›) ?_|refine pkT (gff ‹_›) ?_|refine qaa (gff ‹_›) ?_|refine qar (gft ‹_›) ?_|refine qas (gft ‹_›) ?_|refine pkF (gft ‹_›) ?_|refine qac (gft ‹_›) ?_|refine qab hC (qb3 (Int.ofNat f) 0 (Int.ofNat N.length)) ?_|refine qab hC (qe2 b c) ?_|refine qad hS (by kernel_rfl) ?_);conv => whnf)
    exact ⟨_,rfl,Wk.refl _⟩
  ·have d1:(!decide (0 ≤ a ∧ a ≤ Int.ofNat N.length)) = true :=nt_f (decide_eq_false q1)
   rw [hno fun k => q1 k.1]
   repeat ((first|refine qal (takP ht) ?_|refine qaj d1 ?_|refine qai d1 ?_|refine pkT d1 ?_|refine qaa d1 ?_|refine qar (gft d1) ?_|refine qas (gft d1) ?_|refine pkF (gft d1) ?_|refine qac (gft d1) ?_|refine qab hC (qb3 a 0 (Int.ofNat N.length)) ?_|refine qad hS (by kernel_rfl) ?_);conv => whnf)
   exact ⟨_,rfl,Wk.refl _⟩
 ·refine qac (qbt hi) ?_
  conv => whnf
  have e:N.length = L.length :=by omega
  rw [List.take_of_length_le (by omega)] at he
  have hp:decide (pcOk L M) = decide (qlm L.length M) :=decide_eq_decide.2 ⟨fun z => z.2.2,fun z => ⟨⟨h1,h2⟩,⟨N,he.symm,hN⟩,z⟩⟩
  rw [hp]
  refine qe7 hE hS (A :=Nat) [1] (fun i => [(4,nv i)]) (fun _ => []) (fun i => i ≤ M.length ∧ ∀ j,j < i → 1 ≤ gi M j ∧ gi M j ≤ (L.length:Int)) (fun i => M.length - i) 0 rfl rfl (by refine ⟨rfl,rfl,rfl,rfl,?_,?_⟩ <;> repeat' (first|exact trivial|exact rfl|exact Nat.zero_le _|exact bz lL|exact bz lM|exact kle rfl|exact qaf (by assumption)|exact qaf (qae _)|exact qaf (qau _)|exact mxI rfl|apply And.intro)) ⟨Nat.zero_le _,fun _ h => absurd h (Nat.not_lt_zero _)⟩ ?_
  intro i ⟨hi1,hj⟩
  conv => whnf
  by_cases hi2:i < M.length
  ·refine qaa (qag hi2) ?_
   conv => whnf
   refine qaa (qaq (i :=i) (n :=M.length) hi2) ?_
   conv => whnf
   refine qal (nthP (qcf (l :=M) (i :=i) hi2)) ?_
   conv => whnf
   refine qab hC (qk0 L M (gi M i)) ?_
   conv => whnf
   refine qad hS (by kernel_rfl) ?_
   conv => whnf
   by_cases q:1 ≤ gi M i ∧ gi M i ≤ (L.length:Int)
   ·refine qac (nt_t (decide_eq_true q)) ?_
    conv => whnf
    exact ⟨i + 1,⟨hi2,fun j h => by
     by_cases e:j = i
     ·subst e;exact q
     ·exact hj j (by omega)⟩,by omega,(by refine ⟨rfl,rfl,rfl,rfl,?_,?_⟩ <;> repeat' (first|exact trivial|exact rfl|exact Nat.zero_le _|exact congrArg (fun z => some (AV.int .i64 z)) (show IntKind.i64.wrap (Int.ofNat i + 1) = Int.ofNat (i + 1) from qaz (m :=i + 1) (by omega))|exact bz lL|exact bz lM|exact kle rfl|exact qaf (by assumption)|exact qaf (qae _)|exact qaf (qau _)|exact mxI rfl|apply And.intro))⟩
   ·refine qaa (nt_f (decide_eq_false q)) ?_
    conv => whnf
    rw [decide_eq_false (show ¬ qlm L.length M from fun z => q (z i hi2))]
    exact ⟨_,rfl,Wk.refl _⟩
  ·refine qac (qbt hi2) ?_
   conv => whnf
   rw [decide_eq_true (show qlm L.length M from fun j h => hj j (by omega))]
   exact ⟨_,rfl,Wk.refl _⟩
end
end Go.Abs.Seat
