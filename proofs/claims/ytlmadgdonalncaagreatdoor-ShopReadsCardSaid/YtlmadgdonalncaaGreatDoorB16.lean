/-
  Pieces as defined, as the document tells it.
-/
import Derived.Test.YtlmadgdonalncaaGreatDoorU10
namespace Go.Abs.Seat
noncomputable section
open Go Go.Abs Go.Proofs.Tryz
set_option maxRecDepth 100000
set_option maxHeartbeats 40000000
attribute [local irreducible] IntKind.wrap pEq
theorem qfl (a b:Int):Pure prog 91 [.agg [iv a,iv b]] (.bool (decide (tth a ∧ tth b))) :=by
 by_cases h:tth a
 ·have c1:decide (tth a) = true :=decide_eq_true h
  refine qas hE rfl (by repeat' first|exact trivial|assumption|exact qah _|exact fun _ h => nomatch h|apply And.intro) (by repeat' first|exact trivial|assumption|exact qah _|exact fun _ h => nomatch h|apply And.intro) fun S q pc hS hq hC hE => ?_
  conv => whnf
  repeat ((first|refine qag c1 ?_|refine qaf c1 ?_|refine pkT c1 ?_|refine qaa c1 ?_|refine qac hC (qfk a) ?_|refine qac hC (qfk b) ?_|refine qad hS (by kernel_rfl) ?_);conv => whnf)
  exact ⟨_,rfl,wkb (by simp [h])⟩
 ·have c1:decide (tth a) = false :=decide_eq_false h
  refine qas hE rfl (by repeat' first|exact trivial|assumption|exact qah _|exact fun _ h => nomatch h|apply And.intro) (by repeat' first|exact trivial|assumption|exact qah _|exact fun _ h => nomatch h|apply And.intro) fun S q pc hS hq hC hE => ?_
  conv => whnf
  repeat ((first|refine qal c1 ?_|refine qam c1 ?_|refine pkF c1 ?_|refine qab c1 ?_|refine qac hC (qfk a) ?_|refine qad hS (by kernel_rfl) ?_);conv => whnf)
  exact ⟨_,rfl,wkb (by simp [h])⟩
theorem qlu (L:List LkI) (M:List Int) (n:Int):Pure prog 93 [.agg [lkA L,nl M],iv n] (.bool (decide (1 ≤ n ∧ n ≤ (L.length:Int)))) :=by
 have lL :=lkA_no L
 have lLs :=qa5 L
 have lM :=qav M
 refine qas hE rfl (by repeat' first|exact trivial|assumption|exact qah _|exact fun _ h => nomatch h|apply And.intro) (by repeat' first|exact trivial|assumption|exact qah _|exact fun _ h => nomatch h|apply And.intro) fun S q pc hS hq hC hE => ?_
 conv => whnf
 refine qac hC (qce n 1 L.length) ?_
 conv => whnf
 exact ⟨_,rfl,Wk.refl _⟩
theorem qqd {x h:AV} {L:List LkI} {M:List Int} (hx:LL x L) (hh:IL h M) (hn:¬ ((1 ≤ L.length ∧ L.length ≤ 5) ∧ (1 ≤ M.length ∧ M.length ≤ 4))) :
  Pure prog 43 [.agg [x,h]] (.bool false) :=by
 have lx :=hx.no
 have lh :=hh.no
 by_cases h1:1 ≤ L.length ∧ L.length ≤ 5
 ·have h2:¬ (1 ≤ M.length ∧ M.length ≤ 4) :=fun k => hn ⟨h1,k⟩
  have c1:(!decide (1 ≤ (L.length:Int) ∧ (L.length:Int) ≤ 5)) = false :=nt_t (decide_eq_true (by omega))
  rcases hx with ⟨_,rfl⟩ | rfl
  ·exact absurd h1.1 (by decide)
  rcases hh with ⟨rfl,rfl⟩ | rfl
  ·refine qas hE rfl (by repeat' first|exact trivial|assumption|exact qah _|exact fun _ h => nomatch h|apply And.intro) (by repeat' first|exact trivial|assumption|exact qah _|exact fun _ h => nomatch h|apply And.intro) fun S q pc hS hq hC hE => ?_
   conv => whnf
   repeat ((first|refine qal c1 ?_|refine qam c1 ?_|refine pkF c1 ?_|refine qab c1 ?_|refine qac hC (qce L.length 1 5) ?_|refine qac hC (qce 0 1 4) ?_|refine qad hS (by kernel_rfl) ?_);conv => whnf)
   exact ⟨_,rfl,Wk.refl _⟩
  ·have c2:(!decide (1 ≤ (M.length:Int) ∧ (M.length:Int) ≤ 4)) = true :=nt_f (decide_eq_false (by omega))
   refine qas hE rfl (by repeat' first|exact trivial|assumption|exact qah _|exact fun _ h => nomatch h|apply And.intro) (by repeat' first|exact trivial|assumption|exact qah _|exact fun _ h => nomatch h|apply And.intro) fun S q pc hS hq hC hE => ?_
   conv => whnf
   repeat ((first|refine qag ‹_› ?_|refine qaf ‹_› ?_|refine pkT ‹_› ?_|refine qaa ‹_› ?_|refine qal ‹_› ?_|refine qam ‹_› ?_|refine pkF ‹_› ?_|refine qab ‹_› ?_|refine qac hC (qce L.length 1 5) ?_|refine qac hC (qce M.length 1 4) ?_|refine qad hS (by kernel_rfl) ?_);conv => whnf)
   exact ⟨_,rfl,Wk.refl _⟩
 ·rcases hx with ⟨rfl,rfl⟩ | rfl
  ·rcases hh with ⟨rfl,rfl⟩ | rfl
   all_goals
    refine qas hE rfl (by repeat' first|exact trivial|assumption|exact qah _|exact fun _ h => nomatch h|apply And.intro) (by repeat' first|exact trivial|assumption|exact qah _|exact fun _ h => nomatch h|apply And.intro) fun S q pc hS hq hC hE => ?_
    conv => whnf
    repeat ((first|refine qag h1 ?_|refine qaf h1 ?_|refine pkT h1 ?_|refine qaa h1 ?_|refine qal h1 ?_|refine qam h1 ?_|refine pkF h1 ?_|refine qab h1 ?_|refine qac hC (qce 0 1 5) ?_|refine qad hS (by kernel_rfl) ?_);conv => whnf)
    exact ⟨_,rfl,Wk.refl _⟩
  ·have c1:(!decide (1 ≤ (L.length:Int) ∧ (L.length:Int) ≤ 5)) = true :=nt_f (decide_eq_false (by omega))
   rcases hh with ⟨rfl,rfl⟩ | rfl
   all_goals
    refine qas hE rfl (by repeat' first|exact trivial|assumption|exact qah _|exact fun _ h => nomatch h|apply And.intro) (by repeat' first|exact trivial|assumption|exact qah _|exact fun _ h => nomatch h|apply And.intro) fun S q pc hS hq hC hE => ?_
    conv => whnf
    repeat ((first|refine qag c1 ?_|refine qaf c1 ?_|refine pkT c1 ?_|refine qaa c1 ?_|refine qac hC (qce L.length 1 5) ?_|refine qad hS (by kernel_rfl) ?_);conv => whnf)
    exact ⟨_,rfl,Wk.refl _⟩
theorem qir (L:List LkI) (M:List Int) (h1:1 ≤ L.length ∧ L.length ≤ 5) (h2:1 ≤ M.length ∧ M.length ≤ 4):Pure prog 43 [.agg [lkA L,nl M]] (.bool (decide (pcOk L M))) :=by
 have lL :=lkA_no L
 have lM :=qav M
 have lLs :=qa5 L
 have c1:(!decide (1 ≤ (L.length:Int) ∧ (L.length:Int) ≤ 5)) = false :=nt_t (decide_eq_true (by omega))
 have c2:(!decide (1 ≤ (M.length:Int) ∧ (M.length:Int) ≤ 4)) = false :=nt_t (decide_eq_true (by omega))
 refine qas hE rfl (by repeat' first|exact trivial|assumption|exact qah _|exact fun _ h => nomatch h|apply And.intro) (by repeat' first|exact trivial|assumption|exact qah _|exact fun _ h => nomatch h|apply And.intro) fun S q pc hS hq hC hE => ?_
 conv => whnf
 repeat ((first|refine qal ‹_› ?_|refine qam ‹_› ?_|refine pkF ‹_› ?_|refine qab ‹_› ?_|refine qac hC (qce L.length 1 5) ?_|refine qac hC (qce M.length 1 4) ?_|refine qad hS (by kernel_rfl) ?_);conv => whnf)
 refine qfq hE hS (A :=List Lk) [1] (fun N => [(3,nv N.length)]) (fun _ => []) (fun N => N.length ≤ L.length ∧ cL N = L.take N.length ∧ okN N) (fun N => L.length - N.length) [] rfl rfl (by refine ⟨rfl,rfl,rfl,rfl,?_,?_⟩ <;> repeat' (first|exact trivial|exact rfl|exact Nat.zero_le _|exact bz lL|exact bz lM|exact kle rfl|exact qai (by assumption)|exact qai (qah _)|exact qai (qav _)|exact mxI rfl|apply And.intro)) ⟨Nat.zero_le _,rfl,⟨fun _ h => absurd h (Nat.not_lt_zero _),fun _ h => absurd h (Nat.not_lt_zero _),fun _ h => absurd h (Nat.not_lt_zero _),fun _ h => absurd h (Nat.not_lt_zero _)⟩⟩ ?_
 rintro N ⟨hl,he,hN⟩
 conv => whnf
 by_cases hi:N.length < L.length
 ·refine qaa (qae hi) ?_
  conv => whnf
  refine qaa (qaj hi) ?_
  conv => whnf
  have h0 :=qhv L N.length hi
  have ht :=qpu L hi
  have hno:¬ lkAt N (gL L N.length) → decide (pcOk L M) = false :=fun k => decide_eq_false fun z => lkAt.not hi he.symm k z.2.1
  have htk :=qpt L hi
  unfold lkAt at hno
  revert h0 ht hno htk
  generalize gL L N.length = y
  obtain ⟨a,b,c⟩ :=y
  intro h0 ht hno htk
  have h0:nth (lks L) (N.length * 3 + 0) = some (iv a) :=h0
  refine qak (nthP h0) ?_
  conv => whnf
  by_cases q1:0 ≤ a ∧ a ≤ (N.length:Int)
  ·have d1:(!decide (0 ≤ a ∧ a ≤ Int.ofNat N.length)) = false :=nt_t (decide_eq_true q1)
   obtain ⟨f,rfl⟩ : ∃ f:Nat,a = Int.ofNat f :=⟨a.toNat,(Int.toNat_of_nonneg q1.1).symm⟩
   have hf:f ≤ N.length :=Int.ofNat_le.1 q1.2
   by_cases q2:tth b ∧ tth c
   ·have d2:(!decide (tth b ∧ tth c)) = false :=nt_t (decide_eq_true q2)
    obtain ⟨b,rfl⟩ : ∃ f:Nat,b = Int.ofNat f :=⟨b.toNat,(Int.toNat_of_nonneg (Int.le_trans (by decide) q2.1.1)).symm⟩
    obtain ⟨c,rfl⟩ : ∃ f:Nat,c = Int.ofNat f :=⟨c.toNat,(Int.toNat_of_nonneg (Int.le_trans (by decide) q2.2.1)).symm⟩
    have hM:cL (N ++ [(f,b,c)]) = L.take (N.length + 1) :=by rw [qlc,htk,he];rfl
    have hlen:(N ++ [(f,b,c)]).length = N.length + 1 :=by rw [List.length_append];rfl
    have hT :=qm8 (L :=L) (M :=M) (N :=N ++ [(f,b,c)]) (by rw [hlen];exact hM) (by omega) (by omega) (qjb hN.wf (x :=(f,b,c)) hf) (N.length + 1) (N.length + 1) (Nat.le_refl _) (by omega)
    rw [qhf hN.wf (x :=(f,b,c)) hf,qpr] at hT
    have hw:IntKind.i64.wrap (Int.ofNat N.length + 1) = Int.ofNat (N.length + 1) :=qaz (m :=N.length + 1) (by omega)
    have lT :=qah (zp (tr N f ++ [(b,c)]))
    have zT:(zp (tr N f ++ [(b,c)])).length = (tr N f).length + 1 :=by rw [qct,List.length_append];rfl
    have hT:Pure prog 92 [.agg [lkA L,nl M],iv (IntKind.i64.wrap (Int.ofNat N.length + 1))] (pv (zp (tr N f ++ [(b,c)]))) :=by rw [hw];exact hT
    by_cases q3:(tr N f).length ≤ 2
    ·have d3:decide (((zp (tr N f ++ [(b,c)])).length:Int) > 3) = false :=decide_eq_false (by rw [zT];omega)
     try have z1:=qaj hi
     repeat ((first|refine qak (takP ht) ?_|refine qag ‹_› ?_|refine qaf ‹_› ?_|refine pkT ‹_› ?_|refine qaa ‹_› ?_|refine qal ‹_› ?_|refine qam ‹_› ?_|refine pkF ‹_› ?_|refine qab ‹_› ?_|refine qag (gff ‹_›) ?_|refine qaf (gff ‹_›) ?_|refine pkT (gff ‹_›) ?_|refine qaa (gff ‹_›) ?_|refine qac hC (qce (Int.ofNat f) 0 (Int.ofNat N.length)) ?_|refine qac hC (qfl (Int.ofNat b) (Int.ofNat c)) ?_|refine qac hC (hT) ?_|refine qad hS (by kernel_rfl) ?_);conv => whnf)
     obtain ⟨M2,e1,k1,e2⟩ :=lkAt.next hN (x :=(Int.ofNat f,Int.ofNat b,Int.ofNat c)) ⟨q1,q2,q3⟩
     have hw2:IntKind.i64.wrap (Int.ofNat N.length + 1) = Int.ofNat M2.length :=by rw [e2];exact hw
     exact ⟨M2,⟨by omega,by rw [e1,e2,htk,he],k1⟩,by omega,(by refine ⟨rfl,rfl,rfl,rfl,?_,?_⟩ <;> repeat' (first|exact trivial|exact rfl|exact Nat.zero_le _|exact congrArg (fun z => some (AV.int .i64 z)) hw2|exact bz lL|exact bz lM|exact kle rfl|exact qai (by assumption)|exact qai (qah _)|exact qai (qav _)|exact mxI rfl|apply And.intro))⟩
    ·have d3:decide (((zp (tr N f ++ [(b,c)])).length:Int) > 3) = true :=decide_eq_true (by rw [zT];omega)
     rw [hno fun k => q3 k.2.2]
     try have z2:=qaj hi
     repeat ((first|refine qak (takP ht) ?_|refine qag ‹_› ?_|refine qaf ‹_› ?_|refine pkT ‹_› ?_|refine qaa ‹_› ?_|refine qal ‹_› ?_|refine qam ‹_› ?_|refine pkF ‹_› ?_|refine qab ‹_› ?_|refine qag (gff ‹_›) ?_|refine qaf (gff ‹_›) ?_|refine pkT (gff ‹_›) ?_|refine qaa (gff ‹_›) ?_|refine qac hC (qce (Int.ofNat f) 0 (Int.ofNat N.length)) ?_|refine qac hC (qfl (Int.ofNat b) (Int.ofNat c)) ?_|refine qac hC (hT) ?_|refine qad hS (by kernel_rfl) ?_);conv => whnf)
     exact ⟨_,rfl,Wk.refl _⟩
   ·have d2:(!decide (tth b ∧ tth c)) = true :=nt_f (decide_eq_false q2)
    rw [hno fun k => q2 k.2.1]
    try have z3:=qaj hi
    repeat ((first|refine qak (takP ht) ?_|refine qag ‹_› ?_|refine qaf ‹_› ?_|refine pkT ‹_› ?_|refine qaa ‹_› ?_|refine qal ‹_› ?_|refine qam ‹_› ?_|refine pkF ‹_› ?_|refine qab ‹_› ?_|refine qag (gff ‹_›) ?_|refine qaf (gff ‹_›) ?_|refine pkT (gff ‹_›) ?_|refine qaa (gff ‹_›) ?_|refine qal (gft ‹_›) ?_|refine qam (gft ‹_›) ?_|refine pkF (gft ‹_›) ?_|refine qab (gft ‹_›) ?_|refine qac hC (qce (Int.ofNat f) 0 (Int.ofNat N.length)) ?_|refine qac hC (qfl b c) ?_|refine qad hS (by kernel_rfl) ?_);conv => whnf)
    exact ⟨_,rfl,Wk.refl _⟩
  ·have d1:(!decide (0 ≤ a ∧ a ≤ Int.ofNat N.length)) = true :=nt_f (decide_eq_false q1)
   rw [hno fun k => q1 k.1]
   repeat ((first|refine qak (takP ht) ?_|refine qag d1 ?_|refine qaf d1 ?_|refine pkT d1 ?_|refine qaa d1 ?_|refine qal (gft d1) ?_|refine qam (gft d1) ?_|refine pkF (gft d1) ?_|refine qab (gft d1) ?_|refine qac hC (qce a 0 (Int.ofNat N.length)) ?_|refine qad hS (by kernel_rfl) ?_);conv => whnf)
   exact ⟨_,rfl,Wk.refl _⟩
 ·refine qab (qbe hi) ?_
  conv => whnf
  have e:N.length = L.length :=by omega
  rw [List.take_of_length_le (by omega)] at he
  have hp:decide (pcOk L M) = decide (qmd L.length M) :=decide_eq_decide.2 ⟨fun z => z.2.2,fun z => ⟨⟨h1,h2⟩,⟨N,he.symm,hN⟩,z⟩⟩
  rw [hp]
  refine qfq hE hS (A :=Nat) [1] (fun i => [(4,nv i)]) (fun _ => []) (fun i => i ≤ M.length ∧ ∀ j,j < i → 1 ≤ gi M j ∧ gi M j ≤ (L.length:Int)) (fun i => M.length - i) 0 rfl rfl (by refine ⟨rfl,rfl,rfl,rfl,?_,?_⟩ <;> repeat' (first|exact trivial|exact rfl|exact Nat.zero_le _|exact bz lL|exact bz lM|exact kle rfl|exact qai (by assumption)|exact qai (qah _)|exact qai (qav _)|exact mxI rfl|apply And.intro)) ⟨Nat.zero_le _,fun _ h => absurd h (Nat.not_lt_zero _)⟩ ?_
  intro i ⟨hi1,hj⟩
  conv => whnf
  by_cases hi2:i < M.length
  ·refine qaa (qae hi2) ?_
   conv => whnf
   refine qaa (qaj (i :=i) (n :=M.length) hi2) ?_
   conv => whnf
   refine qak (nthP (qb5 (l :=M) (i :=i) hi2)) ?_
   conv => whnf
   refine qac hC (qlu L M (gi M i)) ?_
   conv => whnf
   refine qad hS (by kernel_rfl) ?_
   conv => whnf
   by_cases q:1 ≤ gi M i ∧ gi M i ≤ (L.length:Int)
   ·refine qab (nt_t (decide_eq_true q)) ?_
    conv => whnf
    exact ⟨i + 1,⟨hi2,fun j h => by
     by_cases e:j = i
     ·subst e;exact q
     ·exact hj j (by omega)⟩,by omega,(by refine ⟨rfl,rfl,rfl,rfl,?_,?_⟩ <;> repeat' (first|exact trivial|exact rfl|exact Nat.zero_le _|exact congrArg (fun z => some (AV.int .i64 z)) (show IntKind.i64.wrap (Int.ofNat i + 1) = Int.ofNat (i + 1) from qaz (m :=i + 1) (by omega))|exact bz lL|exact bz lM|exact kle rfl|exact qai (by assumption)|exact qai (qah _)|exact qai (qav _)|exact mxI rfl|apply And.intro))⟩
   ·refine qaa (nt_f (decide_eq_false q)) ?_
    conv => whnf
    rw [decide_eq_false (show ¬ qmd L.length M from fun z => q (z i hi2))]
    exact ⟨_,rfl,Wk.refl _⟩
  ·refine qab (qbe hi2) ?_
   conv => whnf
   rw [decide_eq_true (show qmd L.length M from fun j h => hj j (by omega))]
   exact ⟨_,rfl,Wk.refl _⟩
end
end Go.Abs.Seat
