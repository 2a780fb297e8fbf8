/-
  The law ShopRefused.
-/
import Derived.Test.YtlmadgdonalncaaGreatDoorL44
import Derived.Test.YtlmadgdonalncaaGreatDoorU22
namespace Go.Abs.Seat
noncomputable section
open Go Go.Abs Go.Proofs.Tryz
set_option maxRecDepth 100000
set_option maxHeartbeats 40000000
attribute [local irreducible] IntKind.wrap pEq
instance (W J:List LkI) (G:List Int):Decidable (okG W J G) :=Classical.propDecidable _
theorem ql0 {W J:List LkI} {h:AV} {G:List Int} (hW:areW W) (hJ:areJ J) (hh:IL h G) (ha:Asc 0 J.length G):Pure prog 36 [lkA W,lkA J,h] (.bool (decide (okG W J G))) :=by
 have lh :=hh.no
 have lW :=qa0 W
 have lJ :=qa0 J
 have hJ6 :=hJ.1.2
 have hr :=qrn ha
 by_cases c:G.length = J.length
 ·have ok:okG W J G :=.inl (List.length_eq_zero_iff.1 (by omega))
  rw [decide_eq_true ok]
  have hG:h = nl G :=by
   rcases hh with ⟨_,rfl⟩ | hh
   ·have :=hJ.1.1;simp only [List.length_nil] at c;omega
   ·exact hh
  subst hG
  have c0:((G.length:Int) == (J.length:Int)) = true :=beq_iff_eq.2 (by rw [c])
  refine qan hE rfl (by repeat' first|exact trivial|assumption|exact qaf _|exact fun _ h => nomatch h|apply And.intro) (by repeat' first|exact trivial|assumption|exact qaf _|exact fun _ h => nomatch h|apply And.intro) fun S q pc hS hq hC hE => ?_
  conv => whnf
  repeat ((first|refine qak c0 ?_|refine qaj c0 ?_|refine pkT c0 ?_|refine qaa c0 ?_|refine qad hS (by kernel_rfl) ?_);conv => whnf)
  exact ⟨_,rfl,Wk.refl _⟩
 ·have hl :=qlb ha
  have hs :=qwk hJ (show G.length < J.length by omega) (qst.2 ha)
  have pR :=qi5 hh (J :=J) (by omega) (by omega)
  rw [rsV,if_neg hs.2] at pR
  have pP :=qp8 hW hs.1
  have e:decide (okG W J G) = decide (qe2 W (rsT J G J.length) ≠ none) :=decide_eq_decide.2 ⟨fun z => z.elim (fun z => absurd z hs.2) id,.inr⟩
  rw [e]
  have c0:((G.length:Int) == (J.length:Int)) = false :=beq_eq_false_iff_ne.2 fun z => c (Int.ofNat.inj z)
  generalize qe2 W (rsT J G J.length) = B at *
  cases B with
  |none =>
   rcases hh with ⟨rfl,rfl⟩ | rfl
   all_goals
    refine qan hE rfl (by repeat' first|exact trivial|assumption|exact qaf _|exact fun _ h => nomatch h|apply And.intro) (by repeat' first|exact trivial|assumption|exact qaf _|exact fun _ h => nomatch h|apply And.intro) fun S q pc hS hq hC hE => ?_
    conv => whnf
    repeat ((first|refine qap c0 ?_|refine qaq c0 ?_|refine pkF c0 ?_|refine qab c0 ?_|refine qac hC (pR) ?_|refine qac hC (pP) ?_|refine qad hS (by kernel_rfl) ?_);conv => whnf)
    exact ⟨_,rfl,wkb (by simp)⟩
  |some p =>
   have lp :=qat p.1
   rcases hh with ⟨rfl,rfl⟩ | rfl
   all_goals
    refine qan hE rfl (by repeat' first|exact trivial|assumption|exact qaf _|exact fun _ h => nomatch h|apply And.intro) (by repeat' first|exact trivial|assumption|exact qaf _|exact fun _ h => nomatch h|apply And.intro) fun S q pc hS hq hC hE => ?_
    conv => whnf
    repeat ((first|refine qap c0 ?_|refine qaq c0 ?_|refine pkF c0 ?_|refine qab c0 ?_|refine qac hC (pR) ?_|refine qac hC (pP) ?_|refine qad hS (by kernel_rfl) ?_);conv => whnf)
    exact ⟨_,rfl,wkb (by simp)⟩
theorem qt2:∀ {a b:List Nat},a.length = b.length → (bfr a b = true ↔ lexI (zl a) (zl b) < 0)
 | [],[],_ => ⟨fun h => (nomatch h),fun h => absurd h (by decide)⟩
 | [],_ :: _,h => by cases h
 | _ :: _,[],h => by cases h
 |x :: r,y :: s,h => by
  have ih :=qt2 (a :=r) (b :=s) (by simpa using h)
  rw [bfr,show zl (x :: r) = Int.ofNat x :: zl r from rfl,show zl (y :: s) = Int.ofNat y :: zl s from rfl,qdh]
  by_cases e:x = y
  ·rw [if_pos e,if_pos (by rw [e])];exact ih
  ·rw [if_neg e,if_neg fun z => e (Int.ofNat.inj z),qes,decide_eq_true_iff]
   exact Int.ofNat_lt.symm
theorem qnm:Pure prog 32 [.nils,.nils] (.bool false) :=by
 refine qan hE rfl (by repeat' first|exact trivial|assumption|exact qaf _|exact fun _ h => nomatch h|apply And.intro) (by repeat' first|exact trivial|assumption|exact qaf _|exact fun _ h => nomatch h|apply And.intro) fun S q pc hS hq hC hE => ?_
 conv => whnf
 refine qah hE hS ?_
 conv => whnf
 exact ⟨_,rfl,Wk.refl _⟩
theorem qm0 {J:List LkI} {G:List Int}:(∀ i,i < G.length → qro J G i) ↔ Asc 0 J.length G :=by
 constructor
 ·intro h
  exact qxg fun i hi => ⟨⟨(h i hi).1,by have :=(h i hi).2.1;omega⟩,(h i hi).2.2⟩
 ·intro h i hi
  have k :=qt6 h i hi
  exact ⟨k.1.1,by have :=k.1.2;omega,k.2⟩
theorem qqr {n:Nat} {v w:AV} {A B:List Int} (hv:IL v A) (hw:SVv w B) (ha:Asc 0 n A) (hb:Asc 0 n B) (hn:n ≤ 8) (hl:A.length = B.length) (h:¬ lexI A B < 0):Pure prog 32 [v,w] (.bool false) :=by
 have al :=qlb ha
 rcases hw with ⟨rfl,rfl⟩ | ⟨rfl,hB⟩
 ·have:A = [] :=List.length_eq_zero_iff.1 hl
  subst this
  rcases hv with ⟨rfl,_⟩ | rfl
  ·exact qnm
  ·have lz :=qat []
   refine qan hE rfl (by repeat' first|exact trivial|assumption|exact qaf _|exact fun _ h => nomatch h|apply And.intro) (by repeat' first|exact trivial|assumption|exact qaf _|exact fun _ h => nomatch h|apply And.intro) fun S q pc hS hq hC hE => ?_
   conv => whnf
   refine qah hE hS ?_
   conv => whnf
   exact ⟨_,rfl,Wk.refl _⟩
 ·have hv2:v = nl A :=by
   rcases hv with ⟨_,rfl⟩ | hv
   ·exact absurd (List.length_eq_zero_iff.1 hl.symm) hB
   ·exact hv
  subst hv2
  have za:zl (A.map Int.toNat) = A :=(qn8 fun i hi => (qt6 ha i hi).1.1).symm
  have zb:zl (B.map Int.toNat) = B :=(qn8 fun i hi => (qt6 hb i hi).1.1).symm
  have p :=ql1 (A.map Int.toNat) (B.map Int.toNat) (by simp [hl]) (by rw [List.length_map];omega)
  have e:bfr (A.map Int.toNat) (B.map Int.toNat) = false :=Bool.eq_false_iff.2 fun z => h (by have :=(qt2 (by simp [hl])).1 z;rwa [za,zb] at this)
  rw [e,za,zb] at p
  exact p
theorem shopRefused (known:Pure prog 13 [] (.bool true)) {x y h:AV} {W J:List LkI} {P:List Int} (hx:LL x W) (hy:LL y J) (hh:IL h P):Pure prog 8 [x,y,h] (.bool true) :=by
 have lx :=hx.no
 have ly :=hy.no
 have lh :=hh.no
 have pF :=qlz hx hy hh
 by_cases f:fewP W J P
 rotate_left
 ·have cf:(!decide (fewP W J P)) = true :=nt_f (decide_eq_false f)
  rcases hx with ⟨rfl,_⟩ | rfl <;> rcases hy with ⟨rfl,_⟩ | rfl <;> rcases hh with ⟨rfl,_⟩ | rfl
  all_goals
   refine qan hE rfl (by repeat' first|exact trivial|assumption|exact qaf _|exact fun _ h => nomatch h|apply And.intro) (by repeat' first|exact trivial|assumption|exact qaf _|exact fun _ h => nomatch h|apply And.intro) fun S q pc hS hq hC hE => ?_
   conv => whnf
   repeat ((first|refine qak cf ?_|refine qaj cf ?_|refine pkT cf ?_|refine qaa cf ?_|refine qap (gft cf) ?_|refine qaq (gft cf) ?_|refine pkF (gft cf) ?_|refine qab (gft cf) ?_|refine qac hC (pF) ?_|refine qac hC (known) ?_|refine qad hS (by kernel_rfl) ?_);conv => whnf)
   exact ⟨_,rfl,Wk.refl _⟩
 have cf:(!decide (fewP W J P)) = false :=nt_t (decide_eq_true f)
 have pS :=qi4 hx hy f.1 f.2.1
 by_cases s:areW W ∧ areJ J
 rotate_left
 ·have cs:(!decide (areW W ∧ areJ J)) = true :=nt_f (decide_eq_false s)
  rcases hx with ⟨rfl,_⟩ | rfl <;> rcases hy with ⟨rfl,_⟩ | rfl <;> rcases hh with ⟨rfl,_⟩ | rfl
  all_goals
   refine qan hE rfl (by repeat' first|exact trivial|assumption|exact qaf _|exact fun _ h => nomatch h|apply And.intro) (by repeat' first|exact trivial|assumption|exact qaf _|exact fun _ h => nomatch h|apply And.intro) fun S q pc hS hq hC hE => ?_
   conv => whnf
   repeat ((first|refine qak ‹_› ?_|refine qaj ‹_› ?_|refine pkT ‹_› ?_|refine qaa ‹_› ?_|refine qap ‹_› ?_|refine qaq ‹_› ?_|refine pkF ‹_› ?_|refine qab ‹_› ?_|refine qak (gff ‹_›) ?_|refine qaj (gff ‹_›) ?_|refine pkT (gff ‹_›) ?_|refine qaa (gff ‹_›) ?_|refine qap (gft ‹_›) ?_|refine qaq (gft ‹_›) ?_|refine pkF (gft ‹_›) ?_|refine qab (gft ‹_›) ?_|refine qac hC (pF) ?_|refine qac hC (pS) ?_|refine qac hC (known) ?_|refine qad hS (by kernel_rfl) ?_);conv => whnf)
   exact ⟨_,rfl,Wk.refl _⟩
 have cs:(!decide (areW W ∧ areJ J)) = false :=nt_t (decide_eq_true s)
 obtain ⟨hW,hJ⟩ :=s
 obtain rfl :=qwb hx hW.1.1
 obtain rfl :=qwb hy hJ.1.1
 have lW :=qa0 W
 have lJ :=qa0 J
 have hJ6 :=hJ.1.2
 by_cases r:Asc 0 J.length P
 rotate_left
 ·have pA :=qev (J :=J) hh f.2.2 (B :=false) ⟨fun z => (nomatch z),fun z => absurd (qm0.1 z) r⟩
  rcases hh with ⟨rfl,_⟩ | rfl
  all_goals
   refine qan hE rfl (by repeat' first|exact trivial|assumption|exact qaf _|exact fun _ h => nomatch h|apply And.intro) (by repeat' first|exact trivial|assumption|exact qaf _|exact fun _ h => nomatch h|apply And.intro) fun S q pc hS hq hC hE => ?_
   conv => whnf
   repeat ((first|refine qap ‹_› ?_|refine qaq ‹_› ?_|refine pkF ‹_› ?_|refine qab ‹_› ?_|refine qak (gff ‹_›) ?_|refine qaj (gff ‹_›) ?_|refine pkT (gff ‹_›) ?_|refine qaa (gff ‹_›) ?_|refine qac hC (pF) ?_|refine qac hC (pS) ?_|refine qac hC (pA) ?_|refine qac hC (known) ?_|refine qad hS (by kernel_rfl) ?_);conv => whnf)
   exact ⟨_,rfl,Wk.refl _⟩
 have pA :=qev (J :=J) hh f.2.2 (B :=true) ⟨fun _ => qm0.2 r,fun _ => rfl⟩
 obtain ⟨k1,k2⟩ :=qot (W :=W) hJ
 obtain ⟨k3,k4⟩ :=qft.1 k1
 have pD :=qgy hW hJ
 have hO :=k2 P
 have xl :=qlb k3
 obtain ⟨X,hX⟩ : ∃ X,X = rfI W J :=⟨_,rfl⟩
 rw [← hX] at k3 k4 pD hO xl
 obtain ⟨w,hw⟩ :=SVv.of X
 rw [← hw.eq] at pD
 have iw:IL w X :=hw.imp (fun z => z) fun z => z.1
 have lw :=iw.no
 have pX :=qev (J :=J) iw (by omega) (B :=true) ⟨fun _ => qm0.2 k3,fun _ => rfl⟩
 have pC :=ql0 hW hJ iw k3
 rw [decide_eq_true k4] at pC
 have pc2 :=ql0 hW hJ hh r
 have c1:decide ((X.length:Int) > (J.length:Int)) = false :=decide_eq_false (by omega)
 by_cases o:okG W J P
 ·rw [decide_eq_true o] at pc2
  have hb :=hO (qft.2 ⟨r,o⟩)
  by_cases c:P.length > X.length
  ·have c2:decide ((P.length:Int) > (X.length:Int)) = true :=decide_eq_true (by omega)
   rcases hw with ⟨rfl,rfl⟩ | ⟨rfl,_⟩
   ·rcases hh with ⟨rfl,rfl⟩ | rfl
    ·exact absurd c (by decide)
    ·skip
     refine qan hE rfl (by repeat' first|exact trivial|assumption|exact qaf _|exact fun _ h => nomatch h|apply And.intro) (by repeat' first|exact trivial|assumption|exact qaf _|exact fun _ h => nomatch h|apply And.intro) fun S q pc hS hq hC hE => ?_
     conv => whnf
     repeat ((first|refine qak ‹_› ?_|refine qaj ‹_› ?_|refine pkT ‹_› ?_|refine qaa ‹_› ?_|refine qap ‹_› ?_|refine qaq ‹_› ?_|refine pkF ‹_› ?_|refine qab ‹_› ?_|refine qak (gff ‹_›) ?_|refine qaj (gff ‹_›) ?_|refine pkT (gff ‹_›) ?_|refine qaa (gff ‹_›) ?_|refine qap (gft ‹_›) ?_|refine qaq (gft ‹_›) ?_|refine pkF (gft ‹_›) ?_|refine qab (gft ‹_›) ?_|refine qac hC (pF) ?_|refine qac hC (pS) ?_|refine qac hC (pA) ?_|refine qac hC (pD) ?_|refine qac hC (pX) ?_|refine qac hC (pC) ?_|refine qac hC (pc2) ?_|refine qac hC (known) ?_|refine qad hS (by kernel_rfl) ?_);conv => whnf)
     exact ⟨_,rfl,Wk.refl _⟩
   ·rcases hh with ⟨rfl,rfl⟩ | rfl
    ·exact absurd c (Nat.not_lt_zero _)
    ·skip
     refine qan hE rfl (by repeat' first|exact trivial|assumption|exact qaf _|exact fun _ h => nomatch h|apply And.intro) (by repeat' first|exact trivial|assumption|exact qaf _|exact fun _ h => nomatch h|apply And.intro) fun S q pc hS hq hC hE => ?_
     conv => whnf
     repeat ((first|refine qak ‹_› ?_|refine qaj ‹_› ?_|refine pkT ‹_› ?_|refine qaa ‹_› ?_|refine qap ‹_› ?_|refine qaq ‹_› ?_|refine pkF ‹_› ?_|refine qab ‹_› ?_|refine qak (gff ‹_›) ?_|refine qaj (gff ‹_›) ?_|refine pkT (gff ‹_›) ?_|refine qaa (gff ‹_›) ?_|refine qap (gft ‹_›) ?_|refine qaq (gft ‹_›) ?_|refine pkF (gft ‹_›) ?_|refine qab (gft ‹_›) ?_|refine qac hC (pF) ?_|refine qac hC (pS) ?_|refine qac hC (pA) ?_|refine qac hC (pD) ?_|refine qac hC (pX) ?_|refine qac hC (pC) ?_|refine qac hC (pc2) ?_|refine qac hC (known) ?_|refine qad hS (by kernel_rfl) ?_);conv => whnf)
     exact ⟨_,rfl,Wk.refl _⟩
  ·have hl:P.length = X.length :=by
    have:¬ P.length < X.length :=fun z => hb (.inl z)
    omega
   have c2:decide ((P.length:Int) > (X.length:Int)) = false :=decide_eq_false (by omega)
   have c3:((P.length:Int) == (X.length:Int)) = true :=beq_iff_eq.2 (by rw [hl])
   have pB :=qqr hh hw r k3 (by omega) hl fun z => hb (.inr ⟨hl,z⟩)
   rcases hw with ⟨rfl,rfl⟩ | ⟨rfl,hX0⟩
   ·rcases hh with ⟨rfl,rfl⟩ | rfl
    all_goals
     refine qan hE rfl (by repeat' first|exact trivial|assumption|exact qaf _|exact fun _ h => nomatch h|apply And.intro) (by repeat' first|exact trivial|assumption|exact qaf _|exact fun _ h => nomatch h|apply And.intro) fun S q pc hS hq hC hE => ?_
     conv => whnf
     repeat ((first|refine qak ‹_› ?_|refine qaj ‹_› ?_|refine pkT ‹_› ?_|refine qaa ‹_› ?_|refine qap ‹_› ?_|refine qaq ‹_› ?_|refine pkF ‹_› ?_|refine qab ‹_› ?_|refine qak (gff ‹_›) ?_|refine qaj (gff ‹_›) ?_|refine pkT (gff ‹_›) ?_|refine qaa (gff ‹_›) ?_|refine qak (qar ‹_›) ?_|refine qaj (qar ‹_›) ?_|refine pkT (qar ‹_›) ?_|refine qaa (qar ‹_›) ?_|refine qac hC (pF) ?_|refine qac hC (pS) ?_|refine qac hC (pA) ?_|refine qac hC (pD) ?_|refine qac hC (pX) ?_|refine qac hC (pC) ?_|refine qac hC (pc2) ?_|refine qac hC (pB) ?_|refine qac hC (known) ?_|refine qad hS (by kernel_rfl) ?_);conv => whnf)
     exact ⟨_,rfl,Wk.refl _⟩
   ·rcases hh with ⟨rfl,rfl⟩ | rfl
    ·exact absurd (List.length_eq_zero_iff.1 hl.symm) hX0
    ·skip
     refine qan hE rfl (by repeat' first|exact trivial|assumption|exact qaf _|exact fun _ h => nomatch h|apply And.intro) (by repeat' first|exact trivial|assumption|exact qaf _|exact fun _ h => nomatch h|apply And.intro) fun S q pc hS hq hC hE => ?_
     conv => whnf
     repeat ((first|refine qak ‹_› ?_|refine qaj ‹_› ?_|refine pkT ‹_› ?_|refine qaa ‹_› ?_|refine qap ‹_› ?_|refine qaq ‹_› ?_|refine pkF ‹_› ?_|refine qab ‹_› ?_|refine qak (gff ‹_›) ?_|refine qaj (gff ‹_›) ?_|refine pkT (gff ‹_›) ?_|refine qaa (gff ‹_›) ?_|refine qak (qar ‹_›) ?_|refine qaj (qar ‹_›) ?_|refine pkT (qar ‹_›) ?_|refine qaa (qar ‹_›) ?_|refine qac hC (pF) ?_|refine qac hC (pS) ?_|refine qac hC (pA) ?_|refine qac hC (pD) ?_|refine qac hC (pX) ?_|refine qac hC (pC) ?_|refine qac hC (pc2) ?_|refine qac hC (pB) ?_|refine qac hC (known) ?_|refine qad hS (by kernel_rfl) ?_);conv => whnf)
     exact ⟨_,rfl,Wk.refl _⟩
 ·rw [decide_eq_false o] at pc2
  rcases hw with ⟨rfl,rfl⟩ | ⟨rfl,_⟩
  ·rcases hh with ⟨rfl,rfl⟩ | rfl
   ·exact absurd k4 o
   ·skip
    refine qan hE rfl (by repeat' first|exact trivial|assumption|exact qaf _|exact fun _ h => nomatch h|apply And.intro) (by repeat' first|exact trivial|assumption|exact qaf _|exact fun _ h => nomatch h|apply And.intro) fun S q pc hS hq hC hE => ?_
    conv => whnf
    repeat ((first|refine qap ‹_› ?_|refine qaq ‹_› ?_|refine pkF ‹_› ?_|refine qab ‹_› ?_|refine qak (gff ‹_›) ?_|refine qaj (gff ‹_›) ?_|refine pkT (gff ‹_›) ?_|refine qaa (gff ‹_›) ?_|refine qac hC (pF) ?_|refine qac hC (pS) ?_|refine qac hC (pA) ?_|refine qac hC (pD) ?_|refine qac hC (pX) ?_|refine qac hC (pC) ?_|refine qac hC (pc2) ?_|refine qac hC (known) ?_|refine qad hS (by kernel_rfl) ?_);conv => whnf)
    exact ⟨_,rfl,Wk.refl _⟩
  ·rcases hh with ⟨rfl,rfl⟩ | rfl
   all_goals
    refine qan hE rfl (by repeat' first|exact trivial|assumption|exact qaf _|exact fun _ h => nomatch h|apply And.intro) (by repeat' first|exact trivial|assumption|exact qaf _|exact fun _ h => nomatch h|apply And.intro) fun S q pc hS hq hC hE => ?_
    conv => whnf
    repeat ((first|refine qap ‹_› ?_|refine qaq ‹_› ?_|refine pkF ‹_› ?_|refine qab ‹_› ?_|refine qak (gff ‹_›) ?_|refine qaj (gff ‹_›) ?_|refine pkT (gff ‹_›) ?_|refine qaa (gff ‹_›) ?_|refine qac hC (pF) ?_|refine qac hC (pS) ?_|refine qac hC (pA) ?_|refine qac hC (pD) ?_|refine qac hC (pX) ?_|refine qac hC (pC) ?_|refine qac hC (pc2) ?_|refine qac hC (known) ?_|refine qad hS (by kernel_rfl) ?_);conv => whnf)
    exact ⟨_,rfl,Wk.refl _⟩
end
end Go.Abs.Seat
