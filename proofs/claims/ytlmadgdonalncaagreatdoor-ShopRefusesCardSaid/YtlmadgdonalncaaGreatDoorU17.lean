/-
  Plans: the law's own helpers.
-/
import Derived.Test.YtlmadgdonalncaaGreatDoorU11
import Derived.Test.YtlmadgdonalncaaGreatDoorB93
namespace Go.Abs.Seat
noncomputable section
open Go Go.Abs Go.Proofs.Tryz
set_option maxRecDepth 100000
set_option maxHeartbeats 40000000
attribute [local irreducible] IntKind.wrap pEq
def fewP (W J:List LkI) (P:List Int):Prop :=W.length ≤ 5 ∧ J.length ≤ 8 ∧ P.length ≤ 8
instance (W J:List LkI) (P:List Int):Decidable (fewP W J P) :=inferInstanceAs (Decidable (_ ∧ _ ∧ _))
theorem qlz {x y h:AV} {W J:List LkI} {P:List Int} (hx:LL x W) (hy:LL y J) (hh:IL h P):Pure prog 23 [x,y,h] (.bool (decide (fewP W J P))) :=by
 have lx :=hx.no
 have ly :=hy.no
 have lh :=hh.no
 by_cases q0:W.length ≤ 5
 ·have c0:decide ((W.length:Int) ≤ 5) = true :=decide_eq_true (by omega)
  by_cases q1:J.length ≤ 8
  ·have c1:decide ((J.length:Int) ≤ 8) = true :=decide_eq_true (by omega)
   have e:decide (fewP W J P) = decide ((P.length:Int) ≤ 8) :=decide_eq_decide.2 ⟨fun z => by have :=z.2.2;omega,fun z => ⟨q0,q1,by omega⟩⟩
   rw [e]
   rcases hx with ⟨rfl,rfl⟩ | rfl <;> rcases hy with ⟨rfl,rfl⟩ | rfl <;> rcases hh with ⟨rfl,rfl⟩ | rfl
   all_goals
    refine qan hE rfl (by repeat' first|exact trivial|assumption|exact qaf _|exact fun _ h => nomatch h|apply And.intro) (by repeat' first|exact trivial|assumption|exact qaf _|exact fun _ h => nomatch h|apply And.intro) fun S q pc hS hq hC hE => ?_
    conv => whnf
    repeat ((first|refine qak ‹_› ?_|refine qaj ‹_› ?_|refine pkT ‹_› ?_|refine qaa ‹_› ?_|refine qak (qar ‹_›) ?_|refine qaj (qar ‹_›) ?_|refine pkT (qar ‹_›) ?_|refine qaa (qar ‹_›) ?_|refine qad hS (by kernel_rfl) ?_);conv => whnf)
    exact ⟨_,rfl,Wk.refl _⟩
  ·have c1:decide ((J.length:Int) ≤ 8) = false :=decide_eq_false (by omega)
   rw [decide_eq_false (show ¬ fewP W J P from fun z => q1 z.2.1)]
   rcases hy with ⟨_,rfl⟩ | rfl
   ·exact absurd (Nat.zero_le 8) q1
   rcases hx with ⟨rfl,rfl⟩ | rfl <;> rcases hh with ⟨rfl,rfl⟩ | rfl
   all_goals
    refine qan hE rfl (by repeat' first|exact trivial|assumption|exact qaf _|exact fun _ h => nomatch h|apply And.intro) (by repeat' first|exact trivial|assumption|exact qaf _|exact fun _ h => nomatch h|apply And.intro) fun S q pc hS hq hC hE => ?_
    conv => whnf
    repeat ((first|refine qak ‹_› ?_|refine qaj ‹_› ?_|refine pkT ‹_› ?_|refine qaa ‹_› ?_|refine qap ‹_› ?_|refine qaq ‹_› ?_|refine pkF ‹_› ?_|refine qab ‹_› ?_|refine qak (qar ‹_›) ?_|refine qaj (qar ‹_›) ?_|refine pkT (qar ‹_›) ?_|refine qaa (qar ‹_›) ?_|refine qap (qa2 ‹_›) ?_|refine qaq (qa2 ‹_›) ?_|refine pkF (qa2 ‹_›) ?_|refine qab (qa2 ‹_›) ?_|refine qad hS (by kernel_rfl) ?_);conv => whnf)
    exact ⟨_,rfl,Wk.refl _⟩
 ·have c0:decide ((W.length:Int) ≤ 5) = false :=decide_eq_false (by omega)
  rw [decide_eq_false (show ¬ fewP W J P from fun z => q0 z.1)]
  rcases hx with ⟨_,rfl⟩ | rfl
  ·exact absurd (Nat.zero_le 5) q0
  rcases hy with ⟨rfl,rfl⟩ | rfl <;> rcases hh with ⟨rfl,rfl⟩ | rfl
  all_goals
   refine qan hE rfl (by repeat' first|exact trivial|assumption|exact qaf _|exact fun _ h => nomatch h|apply And.intro) (by repeat' first|exact trivial|assumption|exact qaf _|exact fun _ h => nomatch h|apply And.intro) fun S q pc hS hq hC hE => ?_
   conv => whnf
   repeat ((first|refine qap c0 ?_|refine qaq c0 ?_|refine pkF c0 ?_|refine qab c0 ?_|refine qap (qa2 c0) ?_|refine qaq (qa2 c0) ?_|refine pkF (qa2 c0) ?_|refine qab (qa2 c0) ?_|refine qad hS (by kernel_rfl) ?_);conv => whnf)
   exact ⟨_,rfl,Wk.refl _⟩
def okP (W J:List LkI) (x:List Int):Prop :=isPl W J x ∧ inTm W J x
def rbF (W J:List LkI):Option (List Int) → List (List Int) → Option (List Int)
 |o,[] => o
 |o,x :: r => rbF W J (@ite _ (okP W J x ∧ ∀ b,o = some b → wgJ W J x x.length < wgJ W J b b.length) (Classical.propDecidable _) (some x) o) r
def rbV:Option (List Int) → AV
 |none => .nils
 |some b => nl b
def rbB:Option (List Int) → Bool
 |none => false
 |some _ => true
theorem qza (L:List (List Int)) {i:Nat} (h:i < L.length):L.drop i = gs L i :: L.drop (i + 1) :=qnx L h
theorem qqb {W J:List LkI} (hW:areW W) (hJ:areJ J):Pure prog 30 [lkA W,lkA J] (.tup [rbV (rbF W J none (alP W.length J.length)),.bool (rbB (rbF W J none (alP W.length J.length)))]) :=by
 have lW :=qa0 W
 have lJ :=qa0 J
 have hW3 :=hW.1
 have hJ6 :=hJ.1
 have pA :=qmy (w :=W.length) (m :=J.length) hW.1 hJ.1
 have hne :=fun k (hk:k < (alP W.length J.length).length) => qt8 (w :=W.length) hJ.1.1 hk
 have hml :=fun z (hz:z ∈ alP W.length J.length) => (qir hz).1
 have hlen:(alP W.length J.length).length ≤ 729 :=by
  rw [qld]
  exact Nat.le_trans (Nat.pow_le_pow_left hW.1.2 _) (Nat.le_trans (Nat.pow_le_pow_right (by decide) hJ.1.2) (Nat.le_refl (3 ^ 6)))
 obtain ⟨R,hR⟩ : ∃ R,R = rbF W J none (alP W.length J.length) :=⟨_,rfl⟩
 rw [← hR]
 have lR:Live noL (rbV R) :=by
  cases R with
  |none => trivial
  |some b => exact nl_no b
 generalize alP W.length J.length = L at *
 have lL :=qa4 L
 refine qan hE rfl (by repeat' first|exact trivial|assumption|exact qaf _|exact fun _ h => nomatch h|apply And.intro) (by repeat' first|exact trivial|assumption|exact qaf _|exact fun _ h => nomatch h|apply And.intro) fun S q pc hS hq hC hE => ?_
 conv => whnf
 refine qac hC (pA) ?_
 conv => whnf
 refine qaw hE hS (A :=Nat × Option (List Int)) [0,1,8] (fun (i,o) => [(6,rbV o),(7,.bool (rbB o)),(9,nv i)]) (fun _ => []) (fun _ => []) (fun (i,o) => i ≤ L.length ∧ (∀ b,o = some b → okP W J b) ∧ R = rbF W J o (L.drop i)) (fun (i,_) => L.length - i) (0,none) (Nat.zero_le _) rfl (zhg 0) ⟨Nat.zero_le _,(fun _ h => by cases h),hR⟩ ?_
 rintro ⟨i,o⟩ ⟨hi,hob,he⟩ N hN
 obtain rfl:N = 0 :=hN
 have hi:i ≤ L.length :=hi
 by_cases hi2:i < L.length
 ·have hi1:IntKind.i64.wrap (Int.ofNat i + 1) = Int.ofNat (i + 1) :=qa1 (m :=i + 1) (by omega)
  obtain ⟨y,r,hy⟩ :=hne i hi2
  have hn :=qcw (l :=L) (i :=i) hi2
  have hm :=hml _ (qie L hi2)
  have hsv:sv (gs L i) = nl (gs L i) :=by rw [hy];rfl
  rw [hsv] at hn
  rw [qza L hi2,rbF] at he
  generalize gs L i = x at *
  have lX :=qat x
  have pI :=qrs (W :=W) (J :=J) (P :=x) hW.1 (by omega)
  cases o with
  |none =>
   by_cases a:isPl W J x
   ·have pT :=qgz hW hJ a
    by_cases b:inTm W J x
    ·have c1:decide (isPl W J x) = true :=decide_eq_true a
     have c2:decide (inTm W J x) = true :=decide_eq_true b
     rw [if_pos ⟨⟨a,b⟩,(fun _ h => by cases h)⟩] at he
     conv => whnf
     try have z235:=qau hi2
     try have z236:=qal hi2
     repeat ((first|refine qae (nthP hn) ?_|refine qak ‹_› ?_|refine qaj ‹_› ?_|refine pkT ‹_› ?_|refine qaa ‹_› ?_|refine qap ‹_› ?_|refine qaq ‹_› ?_|refine pkF ‹_› ?_|refine qab ‹_› ?_|refine qak (qar ‹_›) ?_|refine qaj (qar ‹_›) ?_|refine pkT (qar ‹_›) ?_|refine qaa (qar ‹_›) ?_|refine qac hC (pI) ?_|refine qac hC (pT) ?_|refine qad hS (by kernel_rfl) ?_);conv => whnf)
     exact ⟨(i + 1,some x),⟨hi2,(fun _ hb => by cases hb;exact ⟨a,b⟩),he⟩,by show L.length - (i + 1) < L.length - i;omega,Nat.le_refl _,(zhg 0)⟩
    ·have c1:decide (isPl W J x) = true :=decide_eq_true a
     have c2:decide (inTm W J x) = false :=decide_eq_false b
     rw [if_neg fun z => b z.1.2] at he
     conv => whnf
     try have z237:=qau hi2
     try have z238:=qal hi2
     repeat ((first|refine qae (nthP hn) ?_|refine qak ‹_› ?_|refine qaj ‹_› ?_|refine pkT ‹_› ?_|refine qaa ‹_› ?_|refine qap ‹_› ?_|refine qaq ‹_› ?_|refine pkF ‹_› ?_|refine qab ‹_› ?_|refine qak (qar ‹_›) ?_|refine qaj (qar ‹_›) ?_|refine pkT (qar ‹_›) ?_|refine qaa (qar ‹_›) ?_|refine qap (qa2 ‹_›) ?_|refine qaq (qa2 ‹_›) ?_|refine pkF (qa2 ‹_›) ?_|refine qab (qa2 ‹_›) ?_|refine qac hC (pI) ?_|refine qac hC (pT) ?_|refine qad hS (by kernel_rfl) ?_);conv => whnf)
     exact ⟨(i + 1,none),⟨hi2,(fun _ h => by cases h),he⟩,by show L.length - (i + 1) < L.length - i;omega,Nat.le_refl _,(zhg 0)⟩
   ·have c1:decide (isPl W J x) = false :=decide_eq_false a
    rw [if_neg fun z => a z.1.1] at he
    conv => whnf
    try have z239:=qau hi2
    try have z240:=qal hi2
    repeat ((first|refine qae (nthP hn) ?_|refine qak ‹_› ?_|refine qaj ‹_› ?_|refine pkT ‹_› ?_|refine qaa ‹_› ?_|refine qap ‹_› ?_|refine qaq ‹_› ?_|refine pkF ‹_› ?_|refine qab ‹_› ?_|refine qap (qa2 ‹_›) ?_|refine qaq (qa2 ‹_›) ?_|refine pkF (qa2 ‹_›) ?_|refine qab (qa2 ‹_›) ?_|refine qac hC (pI) ?_|refine qad hS (by kernel_rfl) ?_);conv => whnf)
    exact ⟨(i + 1,none),⟨hi2,(fun _ h => by cases h),he⟩,by show L.length - (i + 1) < L.length - i;omega,Nat.le_refl _,(zhg 0)⟩
  |some p =>
   have hp :=hob p rfl
   have lP :=qat p
   have pP :=qhx hW hJ hp.1
   by_cases a:isPl W J x
   ·have pT :=qgz hW hJ a
    have pX :=qhx hW hJ a
    have c1:decide (isPl W J x) = true :=decide_eq_true a
    by_cases b:inTm W J x
    ·have c2:decide (inTm W J x) = true :=decide_eq_true b
     by_cases c:wgJ W J x x.length < wgJ W J p p.length
     ·have c3:decide (wgJ W J x x.length < wgJ W J p p.length) = true :=decide_eq_true c
      rw [if_pos ⟨⟨a,b⟩,(fun _ h => by cases h;exact c)⟩] at he
      conv => whnf
      try have z241:=qau hi2
      try have z242:=qal hi2
      repeat ((first|refine qae (nthP hn) ?_|refine qak ‹_› ?_|refine qaj ‹_› ?_|refine pkT ‹_› ?_|refine qaa ‹_› ?_|refine qap ‹_› ?_|refine qaq ‹_› ?_|refine pkF ‹_› ?_|refine qab ‹_› ?_|refine qak (qar ‹_›) ?_|refine qaj (qar ‹_›) ?_|refine pkT (qar ‹_›) ?_|refine qaa (qar ‹_›) ?_|refine qac hC (pI) ?_|refine qac hC (pT) ?_|refine qac hC (pX) ?_|refine qac hC (pP) ?_|refine qad hS (by kernel_rfl) ?_);conv => whnf)
      exact ⟨(i + 1,some x),⟨hi2,(fun _ hb => by cases hb;exact ⟨a,b⟩),he⟩,by show L.length - (i + 1) < L.length - i;omega,Nat.le_refl _,(zhg 0)⟩
     ·have c3:decide (wgJ W J x x.length < wgJ W J p p.length) = false :=decide_eq_false c
      rw [if_neg fun z => c (z.2 p rfl)] at he
      conv => whnf
      try have z243:=qau hi2
      try have z244:=qal hi2
      repeat ((first|refine qae (nthP hn) ?_|refine qak ‹_› ?_|refine qaj ‹_› ?_|refine pkT ‹_› ?_|refine qaa ‹_› ?_|refine qap ‹_› ?_|refine qaq ‹_› ?_|refine pkF ‹_› ?_|refine qab ‹_› ?_|refine qak (qar ‹_›) ?_|refine qaj (qar ‹_›) ?_|refine pkT (qar ‹_›) ?_|refine qaa (qar ‹_›) ?_|refine qac hC (pI) ?_|refine qac hC (pT) ?_|refine qac hC (pX) ?_|refine qac hC (pP) ?_|refine qad hS (by kernel_rfl) ?_);conv => whnf)
      exact ⟨(i + 1,some p),⟨hi2,hob,he⟩,by show L.length - (i + 1) < L.length - i;omega,Nat.le_refl _,(zhg 0)⟩
    ·have c2:decide (inTm W J x) = false :=decide_eq_false b
     rw [if_neg fun z => b z.1.2] at he
     conv => whnf
     try have z245:=qau hi2
     try have z246:=qal hi2
     repeat ((first|refine qae (nthP hn) ?_|refine qak ‹_› ?_|refine qaj ‹_› ?_|refine pkT ‹_› ?_|refine qaa ‹_› ?_|refine qap ‹_› ?_|refine qaq ‹_› ?_|refine pkF ‹_› ?_|refine qab ‹_› ?_|refine qak (qar ‹_›) ?_|refine qaj (qar ‹_›) ?_|refine pkT (qar ‹_›) ?_|refine qaa (qar ‹_›) ?_|refine qap (qa2 ‹_›) ?_|refine qaq (qa2 ‹_›) ?_|refine pkF (qa2 ‹_›) ?_|refine qab (qa2 ‹_›) ?_|refine qac hC (pI) ?_|refine qac hC (pT) ?_|refine qad hS (by kernel_rfl) ?_);conv => whnf)
     exact ⟨(i + 1,some p),⟨hi2,hob,he⟩,by show L.length - (i + 1) < L.length - i;omega,Nat.le_refl _,(zhg 0)⟩
   ·have c1:decide (isPl W J x) = false :=decide_eq_false a
    rw [if_neg fun z => a z.1.1] at he
    conv => whnf
    try have z247:=qau hi2
    try have z248:=qal hi2
    repeat ((first|refine qae (nthP hn) ?_|refine qak ‹_› ?_|refine qaj ‹_› ?_|refine pkT ‹_› ?_|refine qaa ‹_› ?_|refine qap ‹_› ?_|refine qaq ‹_› ?_|refine pkF ‹_› ?_|refine qab ‹_› ?_|refine qap (qa2 ‹_›) ?_|refine qaq (qa2 ‹_›) ?_|refine pkF (qa2 ‹_›) ?_|refine qab (qa2 ‹_›) ?_|refine qac hC (pI) ?_|refine qad hS (by kernel_rfl) ?_);conv => whnf)
    exact ⟨(i + 1,some p),⟨hi2,hob,he⟩,by show L.length - (i + 1) < L.length - i;omega,Nat.le_refl _,(zhg 0)⟩
 ·rw [List.drop_eq_nil_of_le (by omega),rbF] at he
  subst he
  cases R with
  |none =>
   conv => whnf
   refine qab (qa6 hi2) ?_
   conv => whnf
   refine .inl ?_
   conv => whnf
   exact ⟨_,rfl,Wk.refl _⟩
  |some p =>
   conv => whnf
   refine qab (qa6 hi2) ?_
   conv => whnf
   refine .inl ?_
   conv => whnf
   exact ⟨_,rfl,Wk.refl _⟩
end
end Go.Abs.Seat
