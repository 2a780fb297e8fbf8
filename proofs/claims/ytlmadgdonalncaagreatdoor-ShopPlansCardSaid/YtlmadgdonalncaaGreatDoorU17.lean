/-
  Plans: the law's own helpers.
-/
import Derived.Test.YtlmadgdonalncaaGreatDoorU11
import Derived.Test.YtlmadgdonalncaaGreatDoorB93
import Derived.Test.YtlmadgdonalncaaGreatDoorU6
import Derived.Test.YtlmadgdonalncaaGreatDoorU10
import Derived.Test.YtlmadgdonalncaaGreatDoorU5
import Derived.Test.YtlmadgdonalncaaGreatDoorU12
namespace Go.Abs.Seat
noncomputable section
open Go Go.Abs Go.Proofs.Tryz
set_option maxRecDepth 100000
set_option maxHeartbeats 40000000
attribute [local irreducible] IntKind.wrap pEq
def fewP (W J:List LkI) (P:List Int):Prop :=W.length ≤ 5 ∧ J.length ≤ 8 ∧ P.length ≤ 8
instance (W J:List LkI) (P:List Int):Decidable (fewP W J P) :=inferInstanceAs (Decidable (_ ∧ _ ∧ _))
theorem qk4 {x y h:AV} {W J:List LkI} {P:List Int} (hx:LL x W) (hy:LL y J) (hh:IL h P):Pure prog 23 [x,y,h] (.bool (decide (fewP W J P))) :=by
 have lx :=hx.no
 have ly :=hy.no
 have lh :=hh.no
 by_cases q0:W.length ≤ 5
 ·have c0:decide ((W.length:Int) ≤ 5) = true :=decide_eq_true (by omega)
  by_cases q1:J.length ≤ 8
  ·have c1:decide ((J.length:Int) ≤ 8) = true :=decide_eq_true (by omega)
   have e:decide (fewP W J P) = decide ((P.length:Int) ≤ 8) :=decide_eq_decide.2 ⟨fun z => by have :=z.2.2;omega,fun z => ⟨q0,q1,by omega⟩⟩
   rw [e]
   rcases hx with ⟨rfl,rfl⟩ | rfl <;> rcases hy with ⟨rfl,rfl⟩ | rfl <;> rcases hh with ⟨rfl,rfl⟩ | rfl
   all_goals
    refine qar hE rfl (by repeat' first|exact trivial|assumption|exact qag _|exact fun _ h => nomatch h|apply And.intro) (by repeat' first|exact trivial|assumption|exact qag _|exact fun _ h => nomatch h|apply And.intro) fun S q pc hS hq hC hE => ?_
    conv => whnf
    repeat ((first|refine qai ‹_› ?_|refine qah ‹_› ?_|refine pkT ‹_› ?_|refine qaa ‹_› ?_|refine qai (qaq ‹_›) ?_|refine qah (qaq ‹_›) ?_|refine pkT (qaq ‹_›) ?_|refine qaa (qaq ‹_›) ?_|refine qae hS (by kernel_rfl) ?_);conv => whnf)
    exact ⟨_,rfl,Wk.refl _⟩
  ·have c1:decide ((J.length:Int) ≤ 8) = false :=decide_eq_false (by omega)
   rw [decide_eq_false (show ¬ fewP W J P from fun z => q1 z.2.1)]
   rcases hy with ⟨_,rfl⟩ | rfl
   ·exact absurd (Nat.zero_le 8) q1
   rcases hx with ⟨rfl,rfl⟩ | rfl <;> rcases hh with ⟨rfl,rfl⟩ | rfl
   all_goals
    refine qar hE rfl (by repeat' first|exact trivial|assumption|exact qag _|exact fun _ h => nomatch h|apply And.intro) (by repeat' first|exact trivial|assumption|exact qag _|exact fun _ h => nomatch h|apply And.intro) fun S q pc hS hq hC hE => ?_
    conv => whnf
    repeat ((first|refine qai ‹_› ?_|refine qah ‹_› ?_|refine pkT ‹_› ?_|refine qaa ‹_› ?_|refine qao ‹_› ?_|refine qap ‹_› ?_|refine pkF ‹_› ?_|refine qac ‹_› ?_|refine qai (qaq ‹_›) ?_|refine qah (qaq ‹_›) ?_|refine pkT (qaq ‹_›) ?_|refine qaa (qaq ‹_›) ?_|refine qao (qa0 ‹_›) ?_|refine qap (qa0 ‹_›) ?_|refine pkF (qa0 ‹_›) ?_|refine qac (qa0 ‹_›) ?_|refine qae hS (by kernel_rfl) ?_);conv => whnf)
    exact ⟨_,rfl,Wk.refl _⟩
 ·have c0:decide ((W.length:Int) ≤ 5) = false :=decide_eq_false (by omega)
  rw [decide_eq_false (show ¬ fewP W J P from fun z => q0 z.1)]
  rcases hx with ⟨_,rfl⟩ | rfl
  ·exact absurd (Nat.zero_le 5) q0
  rcases hy with ⟨rfl,rfl⟩ | rfl <;> rcases hh with ⟨rfl,rfl⟩ | rfl
  all_goals
   refine qar hE rfl (by repeat' first|exact trivial|assumption|exact qag _|exact fun _ h => nomatch h|apply And.intro) (by repeat' first|exact trivial|assumption|exact qag _|exact fun _ h => nomatch h|apply And.intro) fun S q pc hS hq hC hE => ?_
   conv => whnf
   repeat ((first|refine qao c0 ?_|refine qap c0 ?_|refine pkF c0 ?_|refine qac c0 ?_|refine qao (qa0 c0) ?_|refine qap (qa0 c0) ?_|refine pkF (qa0 c0) ?_|refine qac (qa0 c0) ?_|refine qae hS (by kernel_rfl) ?_);conv => whnf)
   exact ⟨_,rfl,Wk.refl _⟩
def dyOk (J:List LkI) (D:List Int) (i:Nat):Prop :=1 ≤ gi D i ∧ gi D i ≤ (gL J i).2.2
theorem qgn {J:List LkI} {D:List Int} (hl:D.length = J.length) (hj:J.length ≤ 1000) {B:Bool} (hB:B = true ↔ ∀ i,i < J.length → dyOk J D i):Pure prog 31 [lkA J,nl D] (.bool B) :=by
 have lJ :=qay J
 have lD :=qat D
 refine qar hE rfl (by repeat' first|exact trivial|assumption|exact qag _|exact fun _ h => nomatch h|apply And.intro) (by repeat' first|exact trivial|assumption|exact qag _|exact fun _ h => nomatch h|apply And.intro) fun S q pc hS hq hC hE => ?_
 conv => whnf
 refine qaz hE hS (A :=Nat) [0,1] (fun i => [(5,nv i)]) (fun _ => []) (fun _ => []) (fun i => i ≤ J.length ∧ ∀ j,j < i → dyOk J D j) (fun i => J.length - i) 0 (kle rfl) rfl (by refine ⟨rfl,rfl,rfl,rfl,rfl,rfl,0,rfl,?_,?_⟩ <;> repeat' (first|exact trivial|exact rfl|exact wkr rfl|exact wko rfl|exact Nat.zero_le _|exact qad lJ|exact qad lD|exact kle rfl|exact bdq|exact mxI rfl|exact mxS rfl|apply And.intro)) ⟨Nat.zero_le _,fun _ h => absurd h (Nat.not_lt_zero _)⟩ ?_
 intro i ⟨hi,hj⟩ K hK
 obtain rfl:K = 0 :=hK
 conv => whnf
 by_cases hi2:i < J.length
 ·have hiD:i < D.length :=by omega
  have t1:decide (Int.ofNat i < (D.length:Int)) = true :=qav hiD
  have t2:decide (Int.ofNat i < (J.length:Int)) = true :=qav hi2
  have hi1:IntKind.i64.wrap (Int.ofNat i + 1) = Int.ofNat (i + 1) :=qa5 (m :=i + 1) (by omega)
  have gd :=qbb (l :=D) (i :=i) hiD
  have gj :=qbu J i hi2
  have bad:¬ dyOk J D i → B = false :=fun z => Bool.eq_false_iff.2 fun k => z (hB.1 k i hi2)
  by_cases q0:gi D i < 1
  ·have c0:decide (gi D i < 1) = true :=decide_eq_true q0
   try have z132:=qaj hi2
   try have z133:=qaj hiD
   repeat ((first|refine qaf (nthP gd) ?_|refine qaf (nthP gj) ?_|refine qai ‹_› ?_|refine qah ‹_› ?_|refine pkT ‹_› ?_|refine qaa ‹_› ?_|refine qai (qaq ‹_›) ?_|refine qah (qaq ‹_›) ?_|refine pkT (qaq ‹_›) ?_|refine qaa (qaq ‹_›) ?_|refine qao (gft ‹_›) ?_|refine qap (gft ‹_›) ?_|refine pkF (gft ‹_›) ?_|refine qac (gft ‹_›) ?_|refine qae hS (by kernel_rfl) ?_);conv => whnf)
   rw [bad fun z => by have :=z.1;omega]
   exact ⟨_,rfl,Wk.refl _⟩
  ·have c0:decide (gi D i < 1) = false :=decide_eq_false q0
   by_cases q1:gi D i > (gL J i).2.2
   ·have c1:decide (gi D i > (gL J i).2.2) = true :=decide_eq_true q1
    try have z134:=qaj hi2
    try have z135:=qaj hiD
    repeat ((first|refine qaf (nthP gd) ?_|refine qaf (nthP gj) ?_|refine qai ‹_› ?_|refine qah ‹_› ?_|refine pkT ‹_› ?_|refine qaa ‹_› ?_|refine qao ‹_› ?_|refine qap ‹_› ?_|refine pkF ‹_› ?_|refine qac ‹_› ?_|refine qai (qaq ‹_›) ?_|refine qah (qaq ‹_›) ?_|refine pkT (qaq ‹_›) ?_|refine qaa (qaq ‹_›) ?_|refine qai (gff ‹_›) ?_|refine qah (gff ‹_›) ?_|refine pkT (gff ‹_›) ?_|refine qaa (gff ‹_›) ?_|refine qae hS (by kernel_rfl) ?_);conv => whnf)
    rw [bad fun z => by have :=z.2;omega]
    exact ⟨_,rfl,Wk.refl _⟩
   ·have c1:decide (gi D i > (gL J i).2.2) = false :=decide_eq_false q1
    try have z136:=qaj hi2
    try have z137:=qaj hiD
    repeat ((first|refine qaf (nthP gd) ?_|refine qaf (nthP gj) ?_|refine qai ‹_› ?_|refine qah ‹_› ?_|refine pkT ‹_› ?_|refine qaa ‹_› ?_|refine qao ‹_› ?_|refine qap ‹_› ?_|refine pkF ‹_› ?_|refine qac ‹_› ?_|refine qai (qaq ‹_›) ?_|refine qah (qaq ‹_›) ?_|refine pkT (qaq ‹_›) ?_|refine qaa (qaq ‹_›) ?_|refine qai (gff ‹_›) ?_|refine qah (gff ‹_›) ?_|refine pkT (gff ‹_›) ?_|refine qaa (gff ‹_›) ?_|refine qae hS (by kernel_rfl) ?_);conv => whnf)
    exact ⟨i + 1,⟨hi2,fun j h => by
     by_cases e:j = i
     ·rw [e];exact ⟨by omega,by omega⟩
     ·exact hj j (by omega)⟩,by omega,Nat.le_refl _,(by refine ⟨rfl,rfl,rfl,rfl,rfl,rfl,0,rfl,?_,?_⟩ <;> repeat' (first|exact trivial|exact rfl|exact wkr rfl|exact wko rfl|exact Nat.zero_le _|exact ⟨_,rfl,WkV.int hi1⟩|exact qad lJ|exact qad lD|exact kle rfl|exact bdq|exact mxI rfl|exact mxS rfl|apply And.intro))⟩
 ·have t1:decide (Int.ofNat i < (D.length:Int)) = false :=qbh (by omega)
  repeat ((first|refine qao t1 ?_|refine qap t1 ?_|refine pkF t1 ?_|refine qac t1 ?_|refine qao (qa0 t1) ?_|refine qap (qa0 t1) ?_|refine pkF (qa0 t1) ?_|refine qac (qa0 t1) ?_|refine qae hS (by kernel_rfl) ?_);conv => whnf)
  refine .inl ?_
  conv => whnf
  have c1:((D.length:Int) == (J.length:Int)) = true :=beq_iff_eq.2 (by rw [hl])
  rw [c1,hB.2 fun j h => hj j (by omega)]
  exact ⟨_,rfl,Wk.refl _⟩
def okP (W J:List LkI) (x:List Int):Prop :=isPl W J x ∧ inTm W J x
def rbF (W J:List LkI):Option (List Int) → List (List Int) → Option (List Int)
 |o,[] => o
 |o,x :: r => rbF W J (@ite _ (okP W J x ∧ ∀ b,o = some b → wgJ W J x x.length < wgJ W J b b.length) (Classical.propDecidable _) (some x) o) r
def rbV:Option (List Int) → AV
 |none => .nils
 |some b => nl b
def rbB:Option (List Int) → Bool
 |none => false
 |some _ => true
theorem qxj (L:List (List Int)) {i:Nat} (h:i < L.length):L.drop i = gs L i :: L.drop (i + 1) :=qxh L h
theorem qo3 {W J:List LkI} (hW:areW W) (hJ:areJ J):Pure prog 30 [lkA W,lkA J] (.tup [rbV (rbF W J none (alP W.length J.length)),.bool (rbB (rbF W J none (alP W.length J.length)))]) :=by
 have lW :=qay W
 have lJ :=qay J
 have hW3 :=hW.1
 have hJ6 :=hJ.1
 have pA :=ql1 (w :=W.length) (m :=J.length) hW.1 hJ.1
 have hne :=fun k (hk:k < (alP W.length J.length).length) => qss (w :=W.length) hJ.1.1 hk
 have hml :=fun z (hz:z ∈ alP W.length J.length) => (qh5 hz).1
 have hlen:(alP W.length J.length).length ≤ 729 :=by
  rw [qkl]
  exact Nat.le_trans (Nat.pow_le_pow_left hW.1.2 _) (Nat.le_trans (Nat.pow_le_pow_right (by decide) hJ.1.2) (Nat.le_refl (3 ^ 6)))
 obtain ⟨R,hR⟩ : ∃ R,R = rbF W J none (alP W.length J.length) :=⟨_,rfl⟩
 rw [← hR]
 have lR:Live noL (rbV R) :=by
  cases R with
  |none => trivial
  |some b => exact nl_no b
 generalize alP W.length J.length = L at *
 have lL :=qa6 L
 refine qar hE rfl (by repeat' first|exact trivial|assumption|exact qag _|exact fun _ h => nomatch h|apply And.intro) (by repeat' first|exact trivial|assumption|exact qag _|exact fun _ h => nomatch h|apply And.intro) fun S q pc hS hq hC hE => ?_
 conv => whnf
 refine qab hC (pA) ?_
 conv => whnf
 refine qaz hE hS (A :=Nat × Option (List Int)) [0,1,8] (fun (i,o) => [(6,rbV o),(7,.bool (rbB o)),(9,nv i)]) (fun _ => []) (fun _ => []) (fun (i,o) => i ≤ L.length ∧ (∀ b,o = some b → okP W J b) ∧ R = rbF W J o (L.drop i)) (fun (i,_) => L.length - i) (0,none) (Nat.zero_le _) rfl (by refine ⟨rfl,rfl,rfl,rfl,rfl,rfl,0,rfl,?_,?_⟩ <;> repeat' (first|exact trivial|exact rfl|exact wkr rfl|exact wko rfl|exact Nat.zero_le _|exact qad lL|exact qad lW|exact qad lJ|exact kle rfl|exact bdq|exact mxI rfl|exact mxS rfl|apply And.intro)) ⟨Nat.zero_le _,(fun _ h => by cases h),hR⟩ ?_
 rintro ⟨i,o⟩ ⟨hi,hob,he⟩ N hN
 obtain rfl:N = 0 :=hN
 have hi:i ≤ L.length :=hi
 by_cases hi2:i < L.length
 ·have hi1:IntKind.i64.wrap (Int.ofNat i + 1) = Int.ofNat (i + 1) :=qa5 (m :=i + 1) (by omega)
  obtain ⟨y,r,hy⟩ :=hne i hi2
  have hn :=qjy (l :=L) (i :=i) hi2
  have hm :=hml _ (qrz L hi2)
  have hsv:sv (gs L i) = nl (gs L i) :=by rw [hy];rfl
  rw [hsv] at hn
  rw [qxj L hi2,rbF] at he
  generalize gs L i = x at *
  have lX :=qat x
  have pI :=qhk (W :=W) (J :=J) (P :=x) hW.1 (by omega)
  cases o with
  |none =>
   by_cases a:isPl W J x
   ·have pT :=qgj hW hJ a
    by_cases b:inTm W J x
    ·have c1:decide (isPl W J x) = true :=decide_eq_true a
     have c2:decide (inTm W J x) = true :=decide_eq_true b
     rw [if_pos ⟨⟨a,b⟩,(fun _ h => by cases h)⟩] at he
     conv => whnf
     try have z262:=qav hi2
     try have z263:=qaj hi2
     repeat ((first|refine qaf (nthP hn) ?_|refine qai ‹_› ?_|refine qah ‹_› ?_|refine pkT ‹_› ?_|refine qaa ‹_› ?_|refine qao ‹_› ?_|refine qap ‹_› ?_|refine pkF ‹_› ?_|refine qac ‹_› ?_|refine qai (qaq ‹_›) ?_|refine qah (qaq ‹_›) ?_|refine pkT (qaq ‹_›) ?_|refine qaa (qaq ‹_›) ?_|refine qab hC (pI) ?_|refine qab hC (pT) ?_|refine qae hS (by kernel_rfl) ?_);conv => whnf)
     exact ⟨(i + 1,some x),⟨hi2,(fun _ hb => by cases hb;exact ⟨a,b⟩),he⟩,by show L.length - (i + 1) < L.length - i;omega,Nat.le_refl _,(by refine ⟨rfl,rfl,rfl,rfl,rfl,rfl,0,rfl,?_,?_⟩ <;> repeat' (first|exact trivial|exact rfl|exact wkr rfl|exact wko rfl|exact Nat.zero_le _|exact ⟨_,rfl,WkV.int hi1⟩|exact qad lL|exact qad lW|exact qad lJ|exact qad lX|exact kle rfl|exact bdq|exact mxI rfl|exact mxS rfl|apply And.intro))⟩
    ·have c1:decide (isPl W J x) = true :=decide_eq_true a
     have c2:decide (inTm W J x) = false :=decide_eq_false b
     rw [if_neg fun z => b z.1.2] at he
     conv => whnf
     try have z264:=qav hi2
     try have z265:=qaj hi2
     repeat ((first|refine qaf (nthP hn) ?_|refine qai ‹_› ?_|refine qah ‹_› ?_|refine pkT ‹_› ?_|refine qaa ‹_› ?_|refine qao ‹_› ?_|refine qap ‹_› ?_|refine pkF ‹_› ?_|refine qac ‹_› ?_|refine qai (qaq ‹_›) ?_|refine qah (qaq ‹_›) ?_|refine pkT (qaq ‹_›) ?_|refine qaa (qaq ‹_›) ?_|refine qao (qa0 ‹_›) ?_|refine qap (qa0 ‹_›) ?_|refine pkF (qa0 ‹_›) ?_|refine qac (qa0 ‹_›) ?_|refine qab hC (pI) ?_|refine qab hC (pT) ?_|refine qae hS (by kernel_rfl) ?_);conv => whnf)
     exact ⟨(i + 1,none),⟨hi2,(fun _ h => by cases h),he⟩,by show L.length - (i + 1) < L.length - i;omega,Nat.le_refl _,(by refine ⟨rfl,rfl,rfl,rfl,rfl,rfl,0,rfl,?_,?_⟩ <;> repeat' (first|exact trivial|exact rfl|exact wkr rfl|exact wko rfl|exact Nat.zero_le _|exact ⟨_,rfl,WkV.int hi1⟩|exact qad lL|exact qad lW|exact qad lJ|exact qad lX|exact kle rfl|exact bdq|exact mxI rfl|exact mxS rfl|apply And.intro))⟩
   ·have c1:decide (isPl W J x) = false :=decide_eq_false a
    rw [if_neg fun z => a z.1.1] at he
    conv => whnf
    try have z266:=qav hi2
    try have z267:=qaj hi2
    repeat ((first|refine qaf (nthP hn) ?_|refine qai ‹_› ?_|refine qah ‹_› ?_|refine pkT ‹_› ?_|refine qaa ‹_› ?_|refine qao ‹_› ?_|refine qap ‹_› ?_|refine pkF ‹_› ?_|refine qac ‹_› ?_|refine qao (qa0 ‹_›) ?_|refine qap (qa0 ‹_›) ?_|refine pkF (qa0 ‹_›) ?_|refine qac (qa0 ‹_›) ?_|refine qab hC (pI) ?_|refine qae hS (by kernel_rfl) ?_);conv => whnf)
    exact ⟨(i + 1,none),⟨hi2,(fun _ h => by cases h),he⟩,by show L.length - (i + 1) < L.length - i;omega,Nat.le_refl _,(by refine ⟨rfl,rfl,rfl,rfl,rfl,rfl,0,rfl,?_,?_⟩ <;> repeat' (first|exact trivial|exact rfl|exact wkr rfl|exact wko rfl|exact Nat.zero_le _|exact ⟨_,rfl,WkV.int hi1⟩|exact qad lL|exact qad lW|exact qad lJ|exact qad lX|exact kle rfl|exact bdq|exact mxI rfl|exact mxS rfl|apply And.intro))⟩
  |some p =>
   have hp :=hob p rfl
   have lP :=qat p
   have pP :=qdi hW hJ hp.1
   by_cases a:isPl W J x
   ·have pT :=qgj hW hJ a
    have pX :=qdi hW hJ a
    have c1:decide (isPl W J x) = true :=decide_eq_true a
    by_cases b:inTm W J x
    ·have c2:decide (inTm W J x) = true :=decide_eq_true b
     by_cases c:wgJ W J x x.length < wgJ W J p p.length
     ·have c3:decide (wgJ W J x x.length < wgJ W J p p.length) = true :=decide_eq_true c
      rw [if_pos ⟨⟨a,b⟩,(fun _ h => by cases h;exact c)⟩] at he
      conv => whnf
      try have z268:=qav hi2
      try have z269:=qaj hi2
      repeat ((first|refine qaf (nthP hn) ?_|refine qai ‹_› ?_|refine qah ‹_› ?_|refine pkT ‹_› ?_|refine qaa ‹_› ?_|refine qao ‹_› ?_|refine qap ‹_› ?_|refine pkF ‹_› ?_|refine qac ‹_› ?_|refine qai (qaq ‹_›) ?_|refine qah (qaq ‹_›) ?_|refine pkT (qaq ‹_›) ?_|refine qaa (qaq ‹_›) ?_|refine qab hC (pI) ?_|refine qab hC (pT) ?_|refine qab hC (pX) ?_|refine qab hC (pP) ?_|refine qae hS (by kernel_rfl) ?_);conv => whnf)
      exact ⟨(i + 1,some x),⟨hi2,(fun _ hb => by cases hb;exact ⟨a,b⟩),he⟩,by show L.length - (i + 1) < L.length - i;omega,Nat.le_refl _,(by refine ⟨rfl,rfl,rfl,rfl,rfl,rfl,0,rfl,?_,?_⟩ <;> repeat' (first|exact trivial|exact rfl|exact wkr rfl|exact wko rfl|exact Nat.zero_le _|exact ⟨_,rfl,WkV.int hi1⟩|exact qad lL|exact qad lW|exact qad lJ|exact qad lX|exact qad lP|exact kle rfl|exact bdq|exact mxI rfl|exact mxS rfl|apply And.intro))⟩
     ·have c3:decide (wgJ W J x x.length < wgJ W J p p.length) = false :=decide_eq_false c
      rw [if_neg fun z => c (z.2 p rfl)] at he
      conv => whnf
      try have z270:=qav hi2
      try have z271:=qaj hi2
      repeat ((first|refine qaf (nthP hn) ?_|refine qai ‹_› ?_|refine qah ‹_› ?_|refine pkT ‹_› ?_|refine qaa ‹_› ?_|refine qao ‹_› ?_|refine qap ‹_› ?_|refine pkF ‹_› ?_|refine qac ‹_› ?_|refine qai (qaq ‹_›) ?_|refine qah (qaq ‹_›) ?_|refine pkT (qaq ‹_›) ?_|refine qaa (qaq ‹_›) ?_|refine qab hC (pI) ?_|refine qab hC (pT) ?_|refine qab hC (pX) ?_|refine qab hC (pP) ?_|refine qae hS (by kernel_rfl) ?_);conv => whnf)
      exact ⟨(i + 1,some p),⟨hi2,hob,he⟩,by show L.length - (i + 1) < L.length - i;omega,Nat.le_refl _,(by refine ⟨rfl,rfl,rfl,rfl,rfl,rfl,0,rfl,?_,?_⟩ <;> repeat' (first|exact trivial|exact rfl|exact wkr rfl|exact wko rfl|exact Nat.zero_le _|exact ⟨_,rfl,WkV.int hi1⟩|exact qad lL|exact qad lW|exact qad lJ|exact qad lX|exact qad lP|exact kle rfl|exact bdq|exact mxI rfl|exact mxS rfl|apply And.intro))⟩
    ·have c2:decide (inTm W J x) = false :=decide_eq_false b
     rw [if_neg fun z => b z.1.2] at he
     conv => whnf
     try have z272:=qav hi2
     try have z273:=qaj hi2
     repeat ((first|refine qaf (nthP hn) ?_|refine qai ‹_› ?_|refine qah ‹_› ?_|refine pkT ‹_› ?_|refine qaa ‹_› ?_|refine qao ‹_› ?_|refine qap ‹_› ?_|refine pkF ‹_› ?_|refine qac ‹_› ?_|refine qai (qaq ‹_›) ?_|refine qah (qaq ‹_›) ?_|refine pkT (qaq ‹_›) ?_|refine qaa (qaq ‹_›) ?_|refine qao (qa0 ‹_›) ?_|refine qap (qa0 ‹_›) ?_|refine pkF (qa0 ‹_›) ?_|refine qac (qa0 ‹_›) ?_|refine qab hC (pI) ?_|refine qab hC (pT) ?_|refine qae hS (by kernel_rfl) ?_);conv => whnf)
     exact ⟨(i + 1,some p),⟨hi2,hob,he⟩,by show L.length - (i + 1) < L.length - i;omega,Nat.le_refl _,(by refine ⟨rfl,rfl,rfl,rfl,rfl,rfl,0,rfl,?_,?_⟩ <;> repeat' (first|exact trivial|exact rfl|exact wkr rfl|exact wko rfl|exact Nat.zero_le _|exact ⟨_,rfl,WkV.int hi1⟩|exact qad lL|exact qad lW|exact qad lJ|exact qad lX|exact qad lP|exact kle rfl|exact bdq|exact mxI rfl|exact mxS rfl|apply And.intro))⟩
   ·have c1:decide (isPl W J x) = false :=decide_eq_false a
    rw [if_neg fun z => a z.1.1] at he
    conv => whnf
    try have z274:=qav hi2
    try have z275:=qaj hi2
    repeat ((first|refine qaf (nthP hn) ?_|refine qai ‹_› ?_|refine qah ‹_› ?_|refine pkT ‹_› ?_|refine qaa ‹_› ?_|refine qao ‹_› ?_|refine qap ‹_› ?_|refine pkF ‹_› ?_|refine qac ‹_› ?_|refine qao (qa0 ‹_›) ?_|refine qap (qa0 ‹_›) ?_|refine pkF (qa0 ‹_›) ?_|refine qac (qa0 ‹_›) ?_|refine qab hC (pI) ?_|refine qae hS (by kernel_rfl) ?_);conv => whnf)
    exact ⟨(i + 1,some p),⟨hi2,hob,he⟩,by show L.length - (i + 1) < L.length - i;omega,Nat.le_refl _,(by refine ⟨rfl,rfl,rfl,rfl,rfl,rfl,0,rfl,?_,?_⟩ <;> repeat' (first|exact trivial|exact rfl|exact wkr rfl|exact wko rfl|exact Nat.zero_le _|exact ⟨_,rfl,WkV.int hi1⟩|exact qad lL|exact qad lW|exact qad lJ|exact qad lX|exact qad lP|exact kle rfl|exact bdq|exact mxI rfl|exact mxS rfl|apply And.intro))⟩
 ·rw [List.drop_eq_nil_of_le (by omega),rbF] at he
  subst he
  cases R with
  |none =>
   conv => whnf
   refine qac (qbh hi2) ?_
   conv => whnf
   refine .inl ?_
   conv => whnf
   exact ⟨_,rfl,Wk.refl _⟩
  |some p =>
   conv => whnf
   refine qac (qbh hi2) ?_
   conv => whnf
   refine .inl ?_
   conv => whnf
   exact ⟨_,rfl,Wk.refl _⟩
end
end Go.Abs.Seat
namespace Go.Abs.Seat
noncomputable section
open Go Go.Abs Go.Proofs.Tryz
set_option maxRecDepth 100000
set_option maxHeartbeats 4000000
instance (W J:List LkI) (x:List Int):Decidable (okP W J x) :=Classical.propDecidable _
def plm (W J:List LkI) (x:List Int):Pln :=(x,wgJ W J x x.length)
def exN (w:Nat):Nat → List Int → List (List Int)
 | 0,now => [now]
 |f + 1,now => (List.range w).flatMap fun n => exN w f (now ++ [Int.ofNat n])
theorem qkf (w:Nat):∀ L,exF w L = L.flatMap fun x => exR x w
 | [] => rfl
 |x :: r => by rw [exF,qkf w r];rfl
theorem qua (x:List Int) (w:Nat):exR x w = (List.range w).flatMap fun n => [x ++ [Int.ofNat n]] :=by
 unfold exR
 generalize List.range w = l
 induction l with
 |nil => rfl
 |cons a r ih => simp only [List.map_cons,List.flatMap_cons,ih];rfl
theorem qon (w:Nat):∀ (f:Nat) (now:List Int),exN w (f + 1) now = exF w (exN w f now)
 | 0,now => by
  rw [exN]
  show (List.range w).flatMap (fun n => [now ++ [Int.ofNat n]]) = exF w [now]
  rw [← qua,exF,exF,List.append_nil]
 |f + 1,now => by
  have e:exN w (f + 2) now = (List.range w).flatMap fun n => exN w (f + 1) (now ++ [Int.ofNat n]) :=rfl
  rw [e,qkf]
  have e2:exN w (f + 1) now = (List.range w).flatMap fun n => exN w f (now ++ [Int.ofNat n]) :=rfl
  rw [e2,List.flatMap_assoc]
  congr 1
  funext n
  rw [qon w f,qkf]
theorem qm6 (w:Nat):∀ i,alP w i = exN w i []
 | 0 => rfl
 |i + 1 => by rw [alP,qm6 w i,qon]
theorem qn7 (W J:List LkI) (i:Nat) (g:Nat → List Pln):∀ k,ndP W J i g k = (List.range k).flatMap fun n => if lvP W J i n then g n else []
 | 0 => rfl
 |k + 1 => by
  rw [ndP,qn7 W J i g k,List.range_succ,List.flatMap_append]
  simp
theorem qke {w:Nat}:∀ {f:Nat} {now z:List Int},z ∈ exN w f now → ∃ t,z = now ++ t
 | 0,now,z,h => ⟨[],by rw [List.append_nil];simpa [exN] using h⟩
 |f + 1,now,z,h => by
  rw [exN,List.mem_flatMap] at h
  obtain ⟨n,_,h2⟩ :=h
  obtain ⟨t,rfl⟩ :=qke h2
  exact ⟨Int.ofNat n :: t,by simp⟩
theorem qyh (a b:List Int) (x:Int):gi (a ++ [x] ++ b) a.length = x :=by
 show List.getD _ _ _ = _
 simp [List.getD]
theorem qp6 (W J:List LkI):∀ (f:Nat) (now:List Int),now.length + f = J.length → pfP W J now → srQP W J f now = ((exN W.length f now).filter fun x => decide (okP W J x)).map (plm W J)
 | 0,now,hl,hp => by
  rw [srQP,exN]
  have hpl:isPl W J now :=⟨hl,hp⟩
  by_cases c:inTm W J now
  ·have d:okP W J now :=⟨hpl,c⟩
   rw [if_pos c,List.filter_cons_of_pos (p :=fun x => decide (okP W J x)) (decide_eq_true d)];rfl
  ·rw [if_neg c,List.filter_cons_of_neg (p :=fun x => decide (okP W J x)) (fun z => c (of_decide_eq_true z).2)];rfl
 |f + 1,now,hl,hp => by
  rw [srQP,qn7,exN,List.filter_flatMap,List.map_flatMap]
  have key:∀ n,n ∈ List.range W.length → (if lvP W J now.length n then srQP W J f (now ++ [Int.ofNat n]) else []) = ((exN W.length f (now ++ [Int.ofNat n])).filter fun x => decide (okP W J x)).map (plm W J) :=fun n hn => by
   have hn :=List.mem_range.1 hn
   by_cases c:lvP W J now.length n
   ·rw [if_pos c]
    exact qp6 W J f (now ++ [Int.ofNat n]) (by rw [List.length_append,List.length_singleton];omega) (qjl hp hn c)
   ·rw [if_neg c]
    have e:(exN W.length f (now ++ [Int.ofNat n])).filter (fun x => decide (okP W J x)) = [] :=List.filter_eq_nil_iff.2 fun z hz => by
     intro k
     have k :=of_decide_eq_true k
     obtain ⟨t,rfl⟩ :=qke hz
     have h1 :=k.1.2 now.length (by rw [List.length_append,List.length_append,List.length_singleton];omega)
     unfold qeh at h1
     rw [qyh] at h1
     exact c h1.2
    rw [e];rfl
  have fl:∀ l:List Nat,(∀ n,n ∈ l → n ∈ List.range W.length) → (l.flatMap fun n => if lvP W J now.length n then srQP W J f (now ++ [Int.ofNat n]) else []) = l.flatMap fun n => ((exN W.length f (now ++ [Int.ofNat n])).filter fun x => decide (okP W J x)).map (plm W J) :=by
   intro l
   induction l with
   |nil => intro _;rfl
   |cons a r ih =>
    intro h
    rw [List.flatMap_cons,List.flatMap_cons,key a (h a (List.mem_cons_self ..)),ih fun n hn => h n (List.mem_cons_of_mem _ hn)]
  exact fl _ fun _ h => h
theorem qqj (W J:List LkI):plL W J = ((alP W.length J.length).filter fun x => decide (okP W J x)).map (plm W J) :=by
 unfold plL
 rw [qp6 W J J.length [] (by simp) (fun i h => absurd h (Nat.not_lt_zero _)),qm6]
theorem qg3 (W J:List LkI):∀ (L:List (List Int)) (b:List Int),rbF W J (some b) L = some (bsP (plm W J b) ((L.filter fun x => decide (okP W J x)).map (plm W J))).1
 | [],b => rfl
 |x :: r,b => by
  rw [rbF]
  by_cases c:okP W J x
  ·rw [List.filter_cons_of_pos (p :=fun x => decide (okP W J x)) (decide_eq_true c),List.map_cons,bsP]
   by_cases d:wgJ W J x x.length < wgJ W J b b.length
   ·rw [if_pos ⟨c,(fun _ h => by cases h;exact d)⟩,qg3 W J r x]
    rw [if_pos (show (plm W J x).2 < (plm W J b).2 from d)]
   ·rw [if_neg (fun z => d (z.2 b rfl)),qg3 W J r b]
    rw [if_neg (show ¬ (plm W J x).2 < (plm W J b).2 from d)]
  ·rw [if_neg (fun z => c z.1),List.filter_cons_of_neg (p :=fun x => decide (okP W J x)) (fun z => c (of_decide_eq_true z)),qg3 W J r b]
theorem qnu (W J:List LkI):∀ (L:List (List Int)),rbF W J none L = match (L.filter fun x => decide (okP W J x)).map (plm W J) with | [] => none | x :: r => some (bsP x r).1
 | [] => rfl
 |x :: r => by
  rw [rbF]
  by_cases c:okP W J x
  ·rw [List.filter_cons_of_pos (p :=fun x => decide (okP W J x)) (decide_eq_true c),List.map_cons,if_pos ⟨c,(fun _ h => by cases h)⟩,qg3 W J r x]
  ·rw [if_neg (fun z => c z.1),List.filter_cons_of_neg (p :=fun x => decide (okP W J x)) (fun z => c (of_decide_eq_true z)),qnu W J r]
theorem qwd (W J:List LkI):rbF W J none (alP W.length J.length) = (qex W J).map fun p => p.1 :=by
 rw [qnu]
 unfold qex
 rw [qqj]
 cases ((alP W.length J.length).filter fun x => decide (okP W J x)).map (plm W J) <;> rfl
def ltP:List Int → List Int → Prop
 |a :: r,b :: s => a < b ∨ a = b ∧ ltP r s
 | _,_ => False
theorem qri:∀ a,¬ ltP a a
 | [] => fun h => h
 | _ :: r => fun h => h.elim (fun z => Int.lt_irrefl _ z) fun z => qri r z.2
theorem qn8:∀ {a b},ltP a b → ¬ ltP b a
 | [],_,h,_ => h
 | _ :: _,[],h,_ => h
 |a :: r,b :: s,h,k => by
  rcases h with h | ⟨h,h'⟩
  ·rcases k with k | ⟨k,_⟩
   ·exact Int.lt_asymm h k
   ·exact Int.lt_irrefl b (k ▸ h)
  ·rcases k with k | ⟨_,k'⟩
   ·exact Int.lt_irrefl b (h ▸ k)
   ·exact qn8 h' k'
theorem qk3:∀ {a b c},ltP a b → ltP b c → ltP a c
 | [],_,_,h,_ => h.elim
 | _ :: _,[],_,h,_ => h.elim
 | _ :: _,_ :: _,[],_,k => k.elim
 |a :: r,b :: s,c :: t,h,k => by
  rcases h with h | ⟨h,h'⟩
  ·rcases k with k | ⟨k,_⟩
   ·exact .inl (Int.lt_trans h k)
   ·exact .inl (k ▸ h)
  ·rcases k with k | ⟨k,k'⟩
   ·exact .inl (h ▸ k)
   ·exact .inr ⟨h.trans k,qk3 h' k'⟩
theorem qrh:∀ (p:List Int) {a b:List Int},ltP a b → ltP (p ++ a) (p ++ b)
 | [],_,_,h => h
 | _ :: p,_,_,h => .inr ⟨rfl,qrh p h⟩
theorem qvf (w:Nat):∀ (f:Nat) (now:List Int),(exN w f now).Pairwise ltP
 | 0,now => List.pairwise_singleton _ _
 |f + 1,now => by
  rw [exN,List.pairwise_flatMap]
  refine ⟨fun n _ => qvf w f _,?_⟩
  refine List.Pairwise.imp (R :=(· < ·)) (fun {a b} hab x hx y hy => ?_) List.pairwise_lt_range
  obtain ⟨t,rfl⟩ :=qke hx
  obtain ⟨u,rfl⟩ :=qke hy
  rw [List.append_assoc,List.append_assoc]
  refine qrh now (.inl ?_)
  exact Int.ofNat_lt.2 hab
theorem qkj {R:Pln → Pln → Prop} (htr:∀ a b c,R a b → R b c → R a c):∀ (r:List Pln) (x:Pln),(x :: r).Pairwise R → (bsP x r = x ∨ bsP x r ∈ r) ∧ ∀ y,y = x ∨ y ∈ r → (bsP x r).2 ≤ y.2 ∧ (y.2 = (bsP x r).2 → y = bsP x r ∨ R (bsP x r) y)
 | [],x,_ => ⟨.inl rfl,fun y hy => by
  rcases hy with rfl | hy
  ·exact ⟨Int.le_refl _,fun _ => .inl rfl⟩
  ·cases hy⟩
 |z :: r,x,hp => by
  have hp' :=List.pairwise_cons.1 hp
  rw [bsP]
  by_cases c:z.2 < x.2
  ·rw [if_pos c]
   obtain ⟨h1,h2⟩ :=qkj htr r z hp'.2
   refine ⟨.inr ?_,fun y hy => ?_⟩
   ·rcases h1 with h1 | h1
    ·rw [h1];exact List.mem_cons_self ..
    ·exact List.mem_cons_of_mem _ h1
   ·rcases hy with rfl | hy
    ·have :=(h2 z (.inl rfl)).1
     exact ⟨by omega,fun e => by omega⟩
    ·exact h2 y (by rcases List.mem_cons.1 hy with rfl | hy;exact .inl rfl;exact .inr hy)
  ·rw [if_neg c]
   have hpx:(x :: r).Pairwise R :=List.pairwise_cons.2 ⟨fun y hy => hp'.1 y (List.mem_cons_of_mem _ hy),(List.pairwise_cons.1 hp'.2).2⟩
   obtain ⟨h1,h2⟩ :=qkj htr r x hpx
   refine ⟨?_,fun y hy => ?_⟩
   ·rcases h1 with h1 | h1
    ·exact .inl h1
    ·exact .inr (List.mem_cons_of_mem _ h1)
   ·rcases hy with rfl | hy
    ·exact h2 y (.inl rfl)
    ·rcases List.mem_cons.1 hy with rfl | hy
     ·have hx :=(h2 x (.inl rfl)).1
      refine ⟨by omega,fun e => ?_⟩
      have ex:x.2 = (bsP x r).2 :=by omega
      rcases (h2 x (.inl rfl)).2 ex with k | k
      ·rw [← k];exact .inr (hp'.1 y (List.mem_cons_self ..))
      ·exact .inr (htr _ _ _ k (hp'.1 y (List.mem_cons_self ..)))
     ·exact h2 y (.inr hy)
theorem qsr {w:Nat}:∀ {i:Nat} {z:List Int},z.length = i → (∀ j,j < z.length → 0 ≤ gi z j ∧ gi z j < (w:Int)) → z ∈ alP w i
 | 0,z,h,_ => by rw [List.length_eq_zero_iff.1 h];exact List.mem_singleton.2 rfl
 |i + 1,z,h,hb => by
  have hne:z ≠ [] :=fun e => by rw [e] at h;cases h
  have hd :=List.dropLast_concat_getLast hne
  have hl:z.dropLast.length = i :=by rw [List.length_dropLast,h];rfl
  rw [alP,qms]
  have hg:gi z i = z.getLast hne :=by
   show List.getD _ _ _ = _
   rw [List.getLast_eq_getElem]
   simp [List.getD,h]
  have hbi :=hb i (by omega)
  rw [hg] at hbi
  refine ⟨z.dropLast,(z.getLast hne).toNat,qsr hl fun j hj => ?_,by omega,?_⟩
  ·have :=hb j (by omega)
   have e:gi z.dropLast j = gi z j :=by
    show List.getD _ _ _ = List.getD _ _ _
    simp only [List.getD]
    rw [List.getElem?_dropLast,if_pos (by omega)]
   rw [e];exact this
  ·have e:Int.ofNat (z.getLast hne).toNat = z.getLast hne :=Int.toNat_of_nonneg hbi.1
   rw [e];exact hd.symm
theorem qfn {W J:List LkI} {p:Pln} (h:qex W J = some p):okP W J p.1 ∧ p.2 = wgJ W J p.1 p.1.length ∧ p.1.length = J.length ∧ ∀ z,okP W J z → p.2 ≤ wgJ W J z z.length ∧ (wgJ W J z z.length = p.2 → ¬ ltP z p.1) :=by
 unfold qex at h
 have hpl :=qqj W J
 have hpw:(plL W J).Pairwise fun a b => ltP a.1 b.1 :=by
  rw [hpl,List.pairwise_map]
  refine List.Pairwise.filter _ ?_
  rw [qm6]
  exact qvf _ _ _
 have hall:∀ z,okP W J z → plm W J z ∈ plL W J :=fun z hz => by
  rw [hpl]
  refine List.mem_map.2 ⟨z,List.mem_filter.2 ⟨qsr hz.1.1 fun i hi => ?_,decide_eq_true hz⟩,rfl⟩
  have :=(hz.1.2 i hi).1
  omega
 have hmem:∀ q,q ∈ plL W J → okP W J q.1 ∧ q.2 = wgJ W J q.1 q.1.length :=fun q hq => by
  rw [hpl] at hq
  obtain ⟨x,h1,rfl⟩ :=List.mem_map.1 hq
  exact ⟨of_decide_eq_true (List.mem_filter.1 h1).2,rfl⟩
 cases hL:plL W J with
 |nil => rw [hL] at h;cases h
 |cons x r =>
  rw [hL] at h hpw hall hmem
  have h:some (bsP x r) = some p :=h
  cases h
  obtain ⟨k1,k2⟩ :=qkj (R :=fun a b => ltP a.1 b.1) (fun _ _ _ h k => qk3 h k) r x hpw
  have hin:bsP x r ∈ x :: r :=by
   rcases k1 with k | k
   ·rw [k];exact List.mem_cons_self ..
   ·exact List.mem_cons_of_mem _ k
  obtain ⟨q1,q2⟩ :=hmem _ hin
  refine ⟨q1,q2,q1.1.1,fun z hz => ?_⟩
  have hz2 :=hall z hz
  have :=k2 (plm W J z) (List.mem_cons.1 hz2)
  refine ⟨this.1,fun e k => ?_⟩
  rcases this.2 e with e2 | e2
  ·rw [← e2] at k
   exact qri _ k
  ·exact qn8 e2 k
theorem qm3 {W J:List LkI} (h:qex W J = none):∀ z,¬ okP W J z :=fun z hz => by
 unfold qex at h
 have hpl :=qqj W J
 have hall:plm W J z ∈ plL W J :=by
  rw [hpl]
  refine List.mem_map.2 ⟨z,List.mem_filter.2 ⟨qsr hz.1.1 fun i hi => ?_,decide_eq_true hz⟩,rfl⟩
  have :=(hz.1.2 i hi).1
  omega
 cases hL:plL W J with
 |nil => rw [hL] at hall;cases hall
 |cons x r => rw [hL] at h;cases h
end
end Go.Abs.Seat
namespace Go.Abs.Seat
open Go Go.Abs Go.Proofs.Tryz
set_option maxRecDepth 100000
theorem gRates:GoalM noMu [] 48 [aP] (.tup [rows .no [1,1,1,2,1,3,3,4] 4,.lst [.bool true,.bool false,.bool true,.bool true] 4 .no,i64 0]) :=of_eq_true (by kernel_rfl)
theorem pRates:Pure prog 48 [aP] (.tup [rows .no [1,1,1,2,1,3,3,4] 4,.lst [.bool true,.bool false,.bool true,.bool true] 4 .no,i64 0]) :=gRates.pure MOK.nil (by kernel_rfl)
theorem gSpoils:GoalM muLinks [] 50 [aP,.agg [i64 0,i64 10,i64 30]] (.tup [ints .no [0,1],i64 0]) :=of_eq_true (by kernel_rfl)
theorem pSpoils:Pure prog 50 [aP,.agg [i64 0,i64 10,i64 30]] (.tup [ints .no [0,1],i64 0]) :=gSpoils.pure MOK.nil (by kernel_rfl)
theorem gSheets:GoalM noMu [] 40 [i64 100,i64 2,ints .full [10,20,15,10]] (.tup [ints .no [0,0,0,1],i64 2,i64 0]) :=of_eq_true (by kernel_rfl)
theorem pSheets:Pure prog 40 [i64 100,i64 2,ints .full [10,20,15,10]] (.tup [ints .no [0,0,0,1],i64 2,i64 0]) :=gSheets.pure MOK.nil (by kernel_rfl)
theorem gBalances:GoalM noMu [] 14 [i64 3,aE] (.tup [ints .no [-9,6,3],i64 0]) :=of_eq_true (by kernel_rfl)
theorem pBalances:Pure prog 14 [i64 3,aE] (.tup [ints .no [-9,6,3],i64 0]) :=gBalances.pure MOK.nil (by kernel_rfl)
theorem gSettle:GoalM muSettle [] 15 [i64 3,aE] (.tup [rows .no [1,0,6,2,0,3] 2,i64 0]) :=of_eq_true (by kernel_rfl)
theorem pSettle:Pure prog 15 [i64 3,aE] (.tup [rows .no [1,0,6,2,0,3] 2,i64 0]) :=gSettle.pure MOK.nil (by kernel_rfl)
theorem gBill:GoalM noMu [] 57 [aB] (.tup [i64 43,i64 23,i64 0]) :=of_eq_true (by kernel_rfl)
theorem pBill:Pure prog 57 [aB] (.tup [i64 43,i64 23,i64 0]) :=gBill.pure MOK.nil (by kernel_rfl)
theorem gRead:GoalM noMu [] 44 [aText] (.tup [.agg [rows .no [0,4,4] 1,ints .no [1]],i64 0]) :=of_eq_true (by kernel_rfl)
theorem pRead:Pure prog 44 [aText] (.tup [.agg [rows .no [0,4,4] 1,ints .no [1]],i64 0]) :=gRead.pure MOK.nil (by kernel_rfl)
end Go.Abs.Seat
namespace Go.Abs.Seat
noncomputable section
open Go Go.Abs Go.Proofs.Tryz
set_option maxRecDepth 100000
set_option maxHeartbeats 40000000
attribute [local irreducible] IntKind.wrap pEq
theorem qgq (a b:Int):Pure prog 106 [iv a,iv b] (.bool (decide ((tth a ∧ tth b) ∧ a ≤ b))) :=by
 by_cases h1:tth a
 ·have c1:decide (tth a) = true :=decide_eq_true h1
  by_cases h2:tth b
  ·have c2:decide (tth b) = true :=decide_eq_true h2
   refine qar hE rfl (by repeat' first|exact trivial|assumption|exact qag _|exact fun _ h => nomatch h|apply And.intro) (by repeat' first|exact trivial|assumption|exact qag _|exact fun _ h => nomatch h|apply And.intro) fun S q pc hS hq hC hE => ?_
   conv => whnf
   repeat ((first|refine qai ‹_› ?_|refine qah ‹_› ?_|refine pkT ‹_› ?_|refine qaa ‹_› ?_|refine qai (qaq ‹_›) ?_|refine qah (qaq ‹_›) ?_|refine pkT (qaq ‹_›) ?_|refine qaa (qaq ‹_›) ?_|refine qab hC (qb7 a) ?_|refine qab hC (qb7 b) ?_|refine qae hS (by kernel_rfl) ?_);conv => whnf)
   exact ⟨_,rfl,wkb (by simp [h1,h2])⟩
  ·have c2:decide (tth b) = false :=decide_eq_false h2
   refine qar hE rfl (by repeat' first|exact trivial|assumption|exact qag _|exact fun _ h => nomatch h|apply And.intro) (by repeat' first|exact trivial|assumption|exact qag _|exact fun _ h => nomatch h|apply And.intro) fun S q pc hS hq hC hE => ?_
   conv => whnf
   repeat ((first|refine qai ‹_› ?_|refine qah ‹_› ?_|refine pkT ‹_› ?_|refine qaa ‹_› ?_|refine qao ‹_› ?_|refine qap ‹_› ?_|refine pkF ‹_› ?_|refine qac ‹_› ?_|refine qai (qaq ‹_›) ?_|refine qah (qaq ‹_›) ?_|refine pkT (qaq ‹_›) ?_|refine qaa (qaq ‹_›) ?_|refine qao (qa0 ‹_›) ?_|refine qap (qa0 ‹_›) ?_|refine pkF (qa0 ‹_›) ?_|refine qac (qa0 ‹_›) ?_|refine qab hC (qb7 a) ?_|refine qab hC (qb7 b) ?_|refine qae hS (by kernel_rfl) ?_);conv => whnf)
   exact ⟨_,rfl,wkb (by simp [h2])⟩
 ·have c1:decide (tth a) = false :=decide_eq_false h1
  refine qar hE rfl (by repeat' first|exact trivial|assumption|exact qag _|exact fun _ h => nomatch h|apply And.intro) (by repeat' first|exact trivial|assumption|exact qag _|exact fun _ h => nomatch h|apply And.intro) fun S q pc hS hq hC hE => ?_
  conv => whnf
  repeat ((first|refine qao c1 ?_|refine qap c1 ?_|refine pkF c1 ?_|refine qac c1 ?_|refine qao (qa0 c1) ?_|refine qap (qa0 c1) ?_|refine pkF (qa0 c1) ?_|refine qac (qa0 c1) ?_|refine qab hC (qb7 a) ?_|refine qae hS (by kernel_rfl) ?_);conv => whnf)
  exact ⟨_,rfl,wkb (by simp [h1])⟩
theorem qe9 (a b:Int):Pure prog 107 [fv a b] (.bool (decide (isF a b))) :=by
 by_cases h1:0 ≤ a ∧ a ≤ 50000
 ·have c1:decide (0 ≤ a ∧ a ≤ 50000) = true :=decide_eq_true h1
  refine qar hE rfl (by repeat' first|exact trivial|assumption|exact qag _|exact fun _ h => nomatch h|apply And.intro) (by repeat' first|exact trivial|assumption|exact qag _|exact fun _ h => nomatch h|apply And.intro) fun S q pc hS hq hC hE => ?_
  conv => whnf
  repeat ((first|refine qai c1 ?_|refine qah c1 ?_|refine pkT c1 ?_|refine qaa c1 ?_|refine qai (qaq c1) ?_|refine qah (qaq c1) ?_|refine pkT (qaq c1) ?_|refine qaa (qaq c1) ?_|refine qab hC (qau a 0 50000) ?_|refine qab hC (qau b 1 50000) ?_|refine qae hS (by kernel_rfl) ?_);conv => whnf)
  exact ⟨_,rfl,wkb (by unfold isF;simp [h1])⟩
 ·have c1:decide (0 ≤ a ∧ a ≤ 50000) = false :=decide_eq_false h1
  refine qar hE rfl (by repeat' first|exact trivial|assumption|exact qag _|exact fun _ h => nomatch h|apply And.intro) (by repeat' first|exact trivial|assumption|exact qag _|exact fun _ h => nomatch h|apply And.intro) fun S q pc hS hq hC hE => ?_
  conv => whnf
  repeat ((first|refine qao c1 ?_|refine qap c1 ?_|refine pkF c1 ?_|refine qac c1 ?_|refine qao (qa0 c1) ?_|refine qap (qa0 c1) ?_|refine pkF (qa0 c1) ?_|refine qac (qa0 c1) ?_|refine qab hC (qau a 0 50000) ?_|refine qae hS (by kernel_rfl) ?_);conv => whnf)
  exact ⟨_,rfl,wkb (by unfold isF;simp [h1])⟩
theorem qo0 (a b n d:Nat) (h1:a * d < 4611686018427387904) (h2:n * b < 4611686018427387904):Pure prog 112 [fv (Int.ofNat a) (Int.ofNat b),fv (Int.ofNat n) (Int.ofNat d)] (qf (dQ n d (a,b))) :=by
 refine qar hE rfl (by repeat' first|exact trivial|assumption|exact qag _|exact fun _ h => nomatch h|apply And.intro) (by repeat' first|exact trivial|assumption|exact qag _|exact fun _ h => nomatch h|apply And.intro) fun S q pc hS hq hC hE => ?_
 conv => whnf
 refine ⟨_,rfl,wkE ?_⟩
 rw [show IntKind.i64.wrap (Int.ofNat a * Int.ofNat d) = Int.ofNat (a * d) from qa5 (m :=a * d) (by omega),show IntKind.i64.wrap (Int.ofNat n * Int.ofNat b) = Int.ofNat (n * b) from qa5 (m :=n * b) (by omega),
  qd8 (by show _ ≤ (_:Int) - _;simp only [Int.ofNat_eq_natCast];omega) (by simp only [Int.ofNat_eq_natCast];omega),qtx h1 h2]
 rfl
abbrev hpA (N:List Lk) (M:List Int) (n d:Nat) (W0 W2 W4:AObj):Tr AObj :=
 .node W0 (.node (.cells (.node (nv n) (.node (nv d) .nil .nil) .nil) 2 78) (.node (.cells (.node (nkA N) (.node (nl M) .nil .nil) (.node (pv (zp (rtL N (N.length + 1)))) .nil .nil)) 3 155) .nil .nil) (.node (.cells (.node (.func (.func 111) [] [.ptr 3 0,.ptr 1 0]) .nil .nil) 1 167) .nil .nil)) (.node W2 (.node W4 .nil .nil) .nil)
theorem qrw (N:List Lk) (M:List Int) (n d:Nat) (W0 W2 W4:AObj):HEnd (hpA N M n d W0 W2 W4) 6 :=qc1 [W0,.cells (.node (nv n) (.node (nv d) .nil .nil) .nil) 2 78,W2,.cells (.node (nkA N) (.node (nl M) .nil .nil) (.node (pv (zp (rtL N (N.length + 1)))) .nil .nil)) 3 155,W4,.cells (.node (.func (.func 111) [] [.ptr 3 0,.ptr 1 0]) .nil .nil) 1 167] 0 .nil qdv
abbrev lkV (x:Lk):AV :=.agg [nv x.1,nv x.2.1,nv x.2.2]
def wyA (N:List Lk) (n d:Nat) (x:Lk):Nat × Nat :=dQ n d ((rtA N x.1).1 * x.2.1,(rtA N x.1).2 * x.2.2)
structure nwL (N:List Lk) (x:Lk):Prop where
 f:x.1 ≤ N.length
 a:x.2.1 ≤ 60
 b:x.2.2 ≤ 60
theorem qpr {N:List Lk} (h:okN N) {n d:Nat} (hn:n ≤ 50000) (hd:d ≤ 50000) {x:Lk} (hx:nwL N x):((rtA N x.1).1 * x.2.1 ≤ 12960000 ∧ (rtA N x.1).2 * x.2.2 ≤ 12960000) ∧ (wyA N n d x).1 ≤ 648000000000 ∧ (wyA N n d x).2 ≤ 12960000 :=by
 have hb :=qhj h hx.f
 have m1:(rtA N x.1).1 * x.2.1 ≤ 216000 * 60 :=Nat.mul_le_mul hb.1.2 hx.a
 have m2:(rtA N x.1).2 * x.2.2 ≤ 216000 * 60 :=Nat.mul_le_mul hb.2.2 hx.b
 have m3:(rtA N x.1).1 * x.2.1 * d ≤ 12960000 * 50000 :=Nat.mul_le_mul (by omega) hd
 have m4:n * ((rtA N x.1).2 * x.2.2) ≤ 50000 * 12960000 :=Nat.mul_le_mul hn (by omega)
 refine ⟨⟨by omega,by omega⟩,?_,by show (rtA N x.1).2 * x.2.2 ≤ _;omega⟩
 show gp ((rtA N x.1).1 * x.2.1 * d) (n * ((rtA N x.1).2 * x.2.2)) ≤ _
 unfold gp
 omega
theorem qvv {N:List Lk} (h:okN N) {M:List Int} {n d:Nat} (hn:n ≤ 50000) (hd:d ≤ 50000) {W0 W2 W4:AObj} (b0:BdO 6 W0) (b2:BdO 6 W2) (b4:BdO 6 W4) {x:Lk} (hx:nwL N x) :
  HFun prog 111 [lkV x,.ptr 3 0,.ptr 1 0] (hv (hpA N M n d W0 W2 W4)) 6 (qf (wyA N n d x)) (hv (hpA N M n d W0 W2 W4)) :=by
 have lN :=qay (cL N)
 have lM :=qat M
 have lR :=qag (zp (rtL N (N.length + 1)))
 have hBd:ObBd 6 (hpA N M n d W0 W2 W4) 6 :=by
  repeat' (first|exact trivial|exact b0|exact b2|exact b4|exact Nat.zero_le _|exact qad lN|exact qad lM|exact qad lR|exact kle rfl|apply And.intro|exact Nat.max_le.2 ⟨Nat.zero_le _,qad lN⟩)
 refine qfx hE rfl (qrw N M n d W0 W2 W4) (kle rfl) (Nat.zero_le _) hBd hBd fun S q pc hS hq hC hE => ?_
 have hf :=hx.f
 have hb :=qpr h hn hd hx
 have tk:qb6 2 (qco (x.1 * 2) (flat (zp (rtL N (N.length + 1))))) = some [nv (rtA N x.1).1,nv (rtA N x.1).2] :=by
  rw [qhc _ (by rw [qbw];omega),qfh N (by omega)]
 have m3:(rtA N x.1).1 * x.2.1 * d ≤ 12960000 * 50000 :=Nat.mul_le_mul hb.1.1 hd
 have m4:n * ((rtA N x.1).2 * x.2.2) ≤ 50000 * 12960000 :=Nat.mul_le_mul hn hb.1.2
 conv => whnf
 refine qaa ((show inR (Int.ofNat x.1) (zp (rtL N (N.length + 1))).length = true by rw [qde,qbw];exact qaj (by omega))) ?_
 conv => whnf
 refine qaf (takP tk) ?_
 conv => whnf
 rw [mulN (a :=(rtA N x.1).1) (b :=x.2.1) (by omega),mulN (a :=(rtA N x.1).2) (b :=x.2.2) (by omega)]
 refine qab hC (qo0 ((rtA N x.1).1 * x.2.1) ((rtA N x.1).2 * x.2.2) n d (by omega) (by omega)) ?_
 conv => whnf
 exact ⟨_,rfl,WkV.refl _,rfl,rfl,rfl,rfl,rfl,rfl,trivial⟩
theorem ob6 {h h':Tr AObj} (e0:hv h 0 = hv h' 0) (e1:hv h 1 = hv h' 1) (e2:hv h 2 = hv h' 2) (e3:hv h 3 = hv h' 3) (e4:hv h 4 = hv h' 4) (e5:hv h 5 = hv h' 5):∀ i,i < 6 → hv h i = hv h' i
 | 0,_ => e0
 | 1,_ => e1
 | 2,_ => e2
 | 3,_ => e3
 | 4,_ => e4
 | 5,_ => e5
 | _ + 6,h => absurd h (by omega)
def btL (N:List Lk) (n d:Nat) (x y:Lk):Prop :=(wyA N n d x).1 * (wyA N n d y).2 < (wyA N n d y).1 * (wyA N n d x).2
instance (N:List Lk) (n d:Nat) (x y:Lk):Decidable (btL N n d x y) :=Nat.decLt _ _
theorem quk {N:List Lk} (h:okN N) {M:List Int} {n d:Nat} (hn:n ≤ 50000) (hd:d ≤ 50000) {W0 W2 W4:AObj} (b0:BdO 6 W0) (b2:BdO 6 W2) (b4:BdO 6 W4) {x y:Lk} (hx:nwL N x) (hy:nwL N y) :
  HFun prog 114 [lkV x,lkV y,.ptr 5 0] (hv (hpA N M n d W0 W2 W4)) 6 (.bool (decide (btL N n d x y))) (hv (hpA N M n d W0 W2 W4)) :=by
 have lN :=qay (cL N)
 have lM :=qat M
 have lR :=qag (zp (rtL N (N.length + 1)))
 have hBd:ObBd 6 (hpA N M n d W0 W2 W4) 6 :=by
  repeat' (first|exact trivial|exact b0|exact b2|exact b4|exact Nat.zero_le _|exact qad lN|exact qad lM|exact qad lR|exact kle rfl|apply And.intro|exact Nat.max_le.2 ⟨Nat.zero_le _,qad lN⟩)
 have ax :=qvv h (M :=M) hn hd b0 b2 b4 hx
 have ay :=qvv h (M :=M) hn hd b0 b2 b4 hy
 have gx :=(qpr h hn hd hx).2
 have gy :=(qpr h hn hd hy).2
 have m1:(wyA N n d x).1 * (wyA N n d y).2 ≤ 648000000000 * 12960000 :=Nat.mul_le_mul gx.1 gy.2
 have m2:(wyA N n d y).1 * (wyA N n d x).2 ≤ 648000000000 * 12960000 :=Nat.mul_le_mul gy.1 gx.2
 refine qfx hE rfl (qrw N M n d W0 W2 W4) (kle rfl) (Nat.zero_le _) hBd hBd fun S q pc hS hq hC hE => ?_
 conv => whnf
 refine qbf hC (HFun.pureR ax (ob6 rfl rfl rfl rfl rfl rfl)) ?_
 conv => whnf
 refine qbf hC (HFun.pureR ay (ob6 rfl rfl rfl rfl rfl rfl)) ?_
 conv => whnf
 refine qae hS (by kernel_rfl) ?_
 conv => whnf
 refine ⟨_,rfl,WkV.eq ?_,rfl,rfl,rfl,rfl,rfl,rfl,trivial⟩
 rw [mulN (a :=(wyA N n d x).1) (b :=(wyA N n d y).2) (by omega),mulN (a :=(wyA N n d y).1) (b :=(wyA N n d x).2) (by omega)]
 exact congrArg AV.bool (decide_eq_decide.2 Int.ofNat_lt)
def bsN (N:List Lk) (n d:Nat) (l:List Lk):Nat → Lk
 | 0 => (0,0,0)
 |i + 1 => if i = 0 ∨ btL N n d (gN l i) (bsN N n d l i) then gN l i else bsN N n d l i
theorem qvq {N:List Lk} {n d:Nat} {l:List Lk} (hl:∀ x,x ∈ l → nwL N x):∀ i,i ≤ l.length → nwL N (bsN N n d l i)
 | 0,_ => ⟨Nat.zero_le _,Nat.zero_le _,Nat.zero_le _⟩
 |i + 1,h => by
  rw [bsN]
  split
  ·exact hl _ (qva l h)
  ·exact qvq hl i (by omega)
def orE {α:Type} (o p:Option α):Option α :=match o with | some x => some x | none => p
def fstO {α:Type} (f:Nat → Option α):Nat → Nat → Option α
 | _,0 => none
 |k,n + 1 => orE (f k) (fstO f (k + 1) n)
def sr0 (N:List Lk) (H:List Nat) (hand:Nat) (t:Nat × Nat) (now:List Lk) (_:Nat):Option (List Lk) :=if suP N now H hand t then some [] else none
def stC (g:List Lk → Nat → Option (List Lk)) (N now:List Lk) (i a b:Nat):Option (List Lk) :=if (gN N i).2 = (a,b) then none else (g (chN now i a b) (i + 1)).map ((i,a,b) :: ·)
def srS (g:List Lk → Nat → Option (List Lk)) (N:List Lk) (lo hi:Nat) (now:List Lk) (fr:Nat):Option (List Lk) :=
 fstO (fun i => fstO (fun a => fstO (fun b => stC g N now i a b) lo (hi + 1 - lo)) lo (hi + 1 - lo)) fr (N.length - fr)
def srV:Option (List Lk) → AV
 |none => .tup [.nils,.bool false]
 |some [] => .tup [.nils,.bool true]
 |some (c :: r) => .tup [nkA (c :: r),.bool true]
theorem qw4 (N:List Lk) (i a b j:Nat) (hi:i < N.length):gN (chN N i a b) j = if j = i then ((gN N i).1,a,b) else gN N j :=by
 unfold chN gN
 by_cases e:j = i
 ·subst e
  rw [if_pos rfl,List.getD,List.getElem?_set_self hi];rfl
 ·rw [if_neg e,List.getD,List.getElem?_set_ne (fun z => e z.symm)];rfl
theorem qh3 (N:List Lk) (i a b:Nat):(chN N i a b).length = N.length :=List.length_set
theorem qvl (N:List Lk) (i a b j:Nat) (hi:i < N.length):(gN (chN N i a b) j).1 = (gN N j).1 :=by
 rw [qw4 N i a b j hi]
 split
 ·rename_i e;subst e;rfl
 ·rfl
theorem quu {N:List Lk} {i a b:Nat} (hi:i < N.length):∀ (f x:Nat),(trF (chN N i a b) f x).length = (trF N f x).length
 | _,0 => by cases ‹Nat› <;> rfl
 | 0,_ + 1 => rfl
 |f + 1,x + 1 => by rw [trF,trF,List.length_append,List.length_append,qvl N i a b x hi,quu hi f];rfl
theorem okN.ch {N:List Lk} (h:okN N) {i a b:Nat} (hi:i < N.length) (ha:tN a) (hb:tN b):okN (chN N i a b) :=by
 refine ⟨fun j hj => ?_,fun j hj => ?_,fun j hj => ?_,fun j hj => ?_⟩
 ·rw [qvl N i a b j hi];exact h.wf j (by rw [qh3] at hj;exact hj)
 ·rw [qh3] at hj
  rw [qw4 N i a b j hi]
  split
  ·exact ha
  ·exact h.t1 j hj
 ·rw [qh3] at hj
  rw [qw4 N i a b j hi]
  split
  ·exact hb
  ·exact h.t2 j hj
 ·rw [qh3] at hj
  unfold tr
  rw [quu hi]
  exact h.d j hj
theorem eqPr (cst:Bool) (a b c d:Int):q0 86 cst (fv a b) (fv c d) = @Bool.rec (fun _ => Option Bool) (some false) (@Bool.rec (fun _ => Option Bool) (some false) (some true) (b == d)) (a == c) :=by kernel_rfl
theorem qvj (cst:Bool) (a b c d:Nat):q0 86 cst (fv (Int.ofNat a) (Int.ofNat b)) (fv (Int.ofNat c) (Int.ofNat d)) = some (decide ((c,d) = (a,b))) :=by
 rw [eqPr]
 by_cases h1:a = c
 ·subst h1
  rw [beq_self_eq_true]
  by_cases h2:b = d
  ·subst h2
   rw [beq_self_eq_true,decide_eq_true rfl]
  ·rw [show (Int.ofNat b == Int.ofNat d) = false from beq_eq_false_iff_ne.2 fun z => h2 (Int.ofNat.inj z),decide_eq_false fun z => h2 (Prod.mk.inj z).2.symm]
 ·rw [show (Int.ofNat a == Int.ofNat c) = false from beq_eq_false_iff_ne.2 fun z => h1 (Int.ofNat.inj z),decide_eq_false fun z => h1 (Prod.mk.inj z).1.symm]
abbrev hpC (N:List Lk) (H:List Nat) (lo hi hand:Nat) (t:Nat × Nat):Tr AObj :=
 .node (.cells (.node (nkA N) (.node (nl (zl H)) .nil .nil) .nil) 2 64) (.node (.cells (.node (nv lo) .nil .nil) 1 3) (.node (.cells (.node (nv hand) .nil .nil) 1 3) (.node .hole (.node .hole (.nil) (.nil)) (.nil)) (.node .hole (.nil) (.nil))) (.node .hole (.node .hole (.nil) (.nil)) (.node (.cells (.node (nv t.1) (.node (nv t.2) .nil .nil) .nil) 2 161) (.nil) (.nil)))) (.node (.cells (.node (nv hi) .nil .nil) 1 3) (.node (.cells (.node (nv t.1) (.node (nv t.2) .nil .nil) .nil) 2 78) (.node .hole (.node (.cells (.node (.func (.func 108) [] [.ptr 12 0,.ptr 3 0,.ptr 13 0,.ptr 0 0,.ptr 1 0,.ptr 2 0,.ptr 16 0]) .nil .nil) 1 162) (.nil) (.nil)) (.nil)) (.node (.cells (.node (nkA N) (.node (nl (zl H)) .nil .nil) (.node (pv (zp (rtL N (N.length + 1)))) .nil .nil)) 3 155) (.nil) (.nil))) (.node .hole (.node .hole (.nil) (.nil)) (.node .hole (.nil) (.nil))))
theorem qrv (N:List Lk) (H:List Nat) (lo hi hand:Nat) (t:Nat × Nat):HEnd (hpC N H lo hi hand t) 17 :=qc1 [(.cells (.node (nkA N) (.node (nl (zl H)) .nil .nil) .nil) 2 64),(.cells (.node (nv lo) .nil .nil) 1 3),(.cells (.node (nv hi) .nil .nil) 1 3),(.cells (.node (nv hand) .nil .nil) 1 3),(.cells (.node (nv t.1) (.node (nv t.2) .nil .nil) .nil) 2 78),.hole,.hole,.hole,.hole,.hole,.hole,.hole,(.cells (.node (nkA N) (.node (nl (zl H)) .nil .nil) (.node (pv (zp (rtL N (N.length + 1)))) .nil .nil)) 3 155),(.cells (.node (nv t.1) (.node (nv t.2) .nil .nil) .nil) 2 161),.hole,.hole,(.cells (.node (.func (.func 108) [] [.ptr 12 0,.ptr 3 0,.ptr 13 0,.ptr 0 0,.ptr 1 0,.ptr 2 0,.ptr 16 0]) .nil .nil) 1 162)] 0 .nil qdv
abbrev scA (now:List Lk) (H:List Nat) (fr k:Nat):List AV :=[.agg [nkA now,nl (zl H)],nv fr,nv k,.ptr 12 0,.ptr 3 0,.ptr 13 0,.ptr 0 0,.ptr 1 0,.ptr 2 0,.ptr 16 0]
theorem qu8 (N:List Lk) (H:List Nat) (lo hi hand:Nat) (t:Nat × Nat):ObBd 17 (hpC N H lo hi hand t) 17 :=by
 have lN :=qay (cL N)
 have lM :=qat (zl H)
 have lR :=qag (zp (rtL N (N.length + 1)))
 repeat' (first|exact trivial|exact Nat.zero_le _|exact qad lN|exact qad lM|exact qad lR|exact kle rfl|apply And.intro|exact Nat.max_le.2 ⟨Nat.zero_le _,qad lN⟩)
theorem qkt {N now:List Lk} (h:okN N) (h2:okN now) (h1:1 ≤ N.length) (hN:N.length ≤ 5) (hl:now.length = N.length) {H:List Nat} (hH:hdN N.length H) (lo hi:Nat) {hand:Nat} (hh:hand < H.length) {t:Nat × Nat} (t1:t.1 ≤ 50000) (t2:t.2 ≤ 50000) (fr:Nat) :
  HFun prog 108 (scA now H fr 0) (hv (hpC N H lo hi hand t)) 17 (srV (sr0 N H hand t now fr)) (hv (hpC N H lo hi hand t)) :=by
 have lN :=qay (cL N)
 have lN2 :=qay (cL now)
 have lM :=qat (zl H)
 have lR :=qag (zp (rtL N (N.length + 1)))
 have pw :=qha h2 (by omega) (by omega) (zl H)
 have ps :=qox h h2 hN hl hH hh t1 t2
 have lR2 :=qag (zp (rtL now (now.length + 1)))
 have hb :=qu8 N H lo hi hand t
 unfold wiV at pw ps
 have ev:srV (sr0 N H hand t now fr) = .tup [.nils,.bool (decide (suP N now H hand t))] :=by
  unfold sr0
  by_cases e:suP N now H hand t
  ·rw [if_pos e,decide_eq_true e];rfl
  ·rw [if_neg e,decide_eq_false e];rfl
 rw [ev]
 refine qfx hE rfl (qrv N H lo hi hand t) (Nat.max_le.2 ⟨Nat.max_le.2 ⟨Nat.max_le.2 ⟨Nat.zero_le _,qad lN2⟩,Nat.max_le.2 ⟨Nat.max_le.2 ⟨Nat.zero_le _,qad lM⟩,Nat.zero_le _⟩⟩,kle rfl⟩) (Nat.zero_le _) hb hb fun S q pc hS hq hC hE => ?_
 conv => whnf
 refine qab hC (pw) ?_
 conv => whnf
 refine qab hC (ps) ?_
 conv => whnf
 refine qae hS (by kernel_rfl) ?_
 conv => whnf
 exact ⟨_,rfl,WkV.refl _,rfl,rfl,rfl,rfl,rfl,rfl,rfl,rfl,rfl,rfl,rfl,rfl,rfl,rfl,rfl,rfl,rfl,trivial⟩
end
end Go.Abs.Seat
