/-
  What the program tells of a piece: trains, rates, how far off.
-/
import Derived.Test.YtlmadgdonalncaaGreatDoorB16
import Derived.Test.YtlmadgdonalncaaGreatDoorU7
import Derived.Test.YtlmadgdonalncaaGreatDoorU10
import Derived.Test.YtlmadgdonalncaaGreatDoorT36
namespace Go.Abs.Seat
noncomputable section
open Go Go.Abs Go.Proofs.Tryz
set_option maxRecDepth 100000
set_option maxHeartbeats 40000000
attribute [local irreducible] IntKind.wrap pEq
structure pcN (N:List Lk) (H:List Nat):Prop where
 ok:okN N
 l1:1 ≤ N.length
 l5:N.length ≤ 5
 h1:1 ≤ H.length
 h4:H.length ≤ 4
 hd:∀ x,x ∈ H → 1 ≤ x ∧ x ≤ N.length
theorem pcN.pc {N:List Lk} {H:List Nat} (h:pcN N H):pcOk (cL N) (zl H) :=by
 refine ⟨⟨by rw [qew];exact ⟨h.l1,h.l5⟩,by rw [qdz];exact ⟨h.h1,h.h4⟩⟩,⟨N,rfl,h.ok⟩,fun j hj => ?_⟩
 rw [qdz] at hj
 rw [qmo H hj,qew]
 have :=h.hd _ (qoj H hj)
 exact ⟨Int.ofNat_le.2 this.1,Int.ofNat_le.2 this.2⟩
def swOk (l s:Int):Prop :=(1 ≤ l ∧ l ≤ 500) ∧ 0 ≤ s ∧ s ≤ 9
instance (l s:Int):Decidable (swOk l s) :=instDecidableAnd
def plOk (k:Nat) (D:List Int):Prop :=D.length = k ∧ ∀ j,j < D.length → 0 ≤ gi D j ∧ gi D j < (k:Int)
instance (k:Nat) (D:List Int):Decidable (plOk k D) :=Classical.propDecidable _
def enOk (a:Int) (e:LkI):Prop :=(0 ≤ e.1 ∧ e.1 < a) ∧ (0 ≤ e.2.1 ∧ e.2.1 < a) ∧ e.1 ≠ e.2.1 ∧ 0 ≤ e.2.2 ∧ e.2.2 ≤ 1000000
instance (a:Int) (e:LkI):Decidable (enOk a e) :=Classical.propDecidable _
def allE (a:Int) (L:List LkI):Prop :=∀ j,j < L.length → enOk a (gL L j)
def bkOk (a:Int) (L:List LkI):Prop :=(2 ≤ a ∧ a ≤ 5) ∧ L.length ≤ 8 ∧ allE a L
instance (a:Int) (L:List LkI):Decidable (bkOk a L) :=Classical.propDecidable _

def okW (e:LkI):Prop :=(0 ≤ e.1 ∧ e.1 ≤ 3) ∧ (1 ≤ e.2.1 ∧ e.2.1 ≤ 12) ∧ (0 ≤ e.2.2 ∧ e.2.2 ≤ 100)
def areW (L:List LkI):Prop :=(1 ≤ L.length ∧ L.length ≤ 3) ∧ ∀ j,j < L.length → okW (gL L j)
instance (L:List LkI):Decidable (areW L) :=Classical.propDecidable _
def okJ (e:LkI):Prop :=(1 ≤ e.1 ∧ e.1 ≤ 40) ∧ (0 ≤ e.2.1 ∧ e.2.1 ≤ 3) ∧ (1 ≤ e.2.2 ∧ e.2.2 ≤ 60)
def areJ (L:List LkI):Prop :=(1 ≤ L.length ∧ L.length ≤ 6) ∧ ∀ j,j < L.length → okJ (gL L j)
instance (L:List LkI):Decidable (areJ L) :=Classical.propDecidable _
theorem qyz {L:List LkI} (hl:L.length ≤ 3) (h1:1 ≤ L.length):Pure prog 70 [lkA L] (.bool (decide (areW L))) :=by
 obtain ⟨B,hB⟩ : ∃ B,decide (areW L) = B :=⟨_,rfl⟩
 rw [hB]
 have lL :=qay L
 have k1:decide (1 ≤ (L.length:Int) ∧ (L.length:Int) ≤ 3) = true :=decide_eq_true (by omega)
 refine qar hE rfl (by repeat' first|exact trivial|assumption|exact qag _|exact fun _ h => nomatch h|apply And.intro) (by repeat' first|exact trivial|assumption|exact qag _|exact fun _ h => nomatch h|apply And.intro) fun S q pc hS hq hC hE => ?_
 conv => whnf
 repeat ((first|refine qai k1 ?_|refine qah k1 ?_|refine pkT k1 ?_|refine qaa k1 ?_|refine qai (qaq k1) ?_|refine qah (qaq k1) ?_|refine pkT (qaq k1) ?_|refine qaa (qaq k1) ?_|refine qab hC (qau (L.length:Int) 1 3) ?_|refine qae hS (by kernel_rfl) ?_);conv => whnf)
 refine qas hC ?_
 conv => whnf
 refine qam hE hS ?_
 conv => whnf
 refine qas hC ?_
 conv => whnf
 refine qam hE hS ?_
 conv => whnf
 refine qaz hE hS (A :=Nat) [0,1,7] (fun i => [(8,nv i)]) (fun _ => []) (fun _ => []) (fun i => i ≤ L.length ∧ ∀ j,j < i → okW (gL L j)) (fun i => L.length - i) 0 (kle rfl) rfl (by refine ⟨rfl,rfl,rfl,rfl,rfl,rfl,0,rfl,?_,?_⟩ <;> repeat' (first|exact trivial|exact rfl|exact wkr rfl|exact wko rfl|exact Nat.zero_le _|exact qad lL|exact kle rfl|exact bdq|exact mxI rfl|exact mxS rfl|apply And.intro)) ⟨Nat.zero_le _,fun _ h => absurd h (Nat.not_lt_zero _)⟩ ?_
 intro i ⟨hi,hj⟩ K hK
 obtain rfl:K = 0 :=hK
 conv => whnf
 by_cases hi2:i < L.length
 ·refine qaa (qav hi2) ?_
  conv => whnf
  refine qaa (qaj hi2) ?_
  conv => whnf
  refine qaf (takP (qnf L hi2)) ?_
  conv => whnf
  refine qas hC ?_
  conv => whnf
  refine qam hE hS ?_
  conv => whnf
  have bad:¬ okW (gL L i) → decide (areW L) = false :=fun z => decide_eq_false fun k => z (k.2 i hi2)
  have hi1:IntKind.i64.wrap (Int.ofNat i + 1) = Int.ofNat (i + 1) :=qa5 (m :=i + 1) (by omega)
  by_cases p0:(0 ≤ (gL L i).1 ∧ (gL L i).1 ≤ 3)
  ·have c0:(!decide (0 ≤ (gL L i).1 ∧ (gL L i).1 ≤ 3)) = false :=nt_t (decide_eq_true p0)
   by_cases p1:(1 ≤ (gL L i).2.1 ∧ (gL L i).2.1 ≤ 12)
   ·have c1:(!decide (1 ≤ (gL L i).2.1 ∧ (gL L i).2.1 ≤ 12)) = false :=nt_t (decide_eq_true p1)
    by_cases p2:(0 ≤ (gL L i).2.2 ∧ (gL L i).2.2 ≤ 100)
    ·have c2:(!decide (0 ≤ (gL L i).2.2 ∧ (gL L i).2.2 ≤ 100)) = false :=nt_t (decide_eq_true p2)
     repeat ((first|refine qao ‹_› ?_|refine qap ‹_› ?_|refine pkF ‹_› ?_|refine qac ‹_› ?_|refine qai (gff ‹_›) ?_|refine qah (gff ‹_›) ?_|refine pkT (gff ‹_›) ?_|refine qaa (gff ‹_›) ?_|refine qab hC (qau (gL L i).1 0 3) ?_|refine qab hC (qau (gL L i).2.1 1 12) ?_|refine qab hC (qau (gL L i).2.2 0 100) ?_|refine qae hS (by kernel_rfl) ?_);conv => whnf)
     exact ⟨i + 1,⟨hi2,fun j h => by
      by_cases e:j = i
      ·rw [e];exact ⟨p0,p1,p2⟩
      ·exact hj j (by omega)⟩,by omega,Nat.le_refl _,(by refine ⟨rfl,rfl,rfl,rfl,rfl,rfl,0,rfl,?_,?_⟩ <;> repeat' (first|exact trivial|exact rfl|exact wkr rfl|exact wko rfl|exact Nat.zero_le _|exact ⟨_,rfl,WkV.int hi1⟩|exact qad lL|exact kle rfl|exact bdq|exact mxI rfl|exact mxS rfl|apply And.intro))⟩
    ·have c2:(!decide (0 ≤ (gL L i).2.2 ∧ (gL L i).2.2 ≤ 100)) = true :=nt_f (decide_eq_false p2)
     repeat ((first|refine qai ‹_› ?_|refine qah ‹_› ?_|refine pkT ‹_› ?_|refine qaa ‹_› ?_|refine qao ‹_› ?_|refine qap ‹_› ?_|refine pkF ‹_› ?_|refine qac ‹_› ?_|refine qai (gff ‹_›) ?_|refine qah (gff ‹_›) ?_|refine pkT (gff ‹_›) ?_|refine qaa (gff ‹_›) ?_|refine qao (gft ‹_›) ?_|refine qap (gft ‹_›) ?_|refine pkF (gft ‹_›) ?_|refine qac (gft ‹_›) ?_|refine qai (qaq ‹_›) ?_|refine qah (qaq ‹_›) ?_|refine pkT (qaq ‹_›) ?_|refine qaa (qaq ‹_›) ?_|refine qab hC (qau (gL L i).1 0 3) ?_|refine qab hC (qau (gL L i).2.1 1 12) ?_|refine qab hC (qau (gL L i).2.2 0 100) ?_|refine qae hS (by kernel_rfl) ?_);conv => whnf)
     conv => whnf
     exact ⟨_,rfl,wkb ((bad (fun z => p2 z.2.2)).symm.trans hB)⟩
   ·have c1:(!decide (1 ≤ (gL L i).2.1 ∧ (gL L i).2.1 ≤ 12)) = true :=nt_f (decide_eq_false p1)
    repeat ((first|refine qai ‹_› ?_|refine qah ‹_› ?_|refine pkT ‹_› ?_|refine qaa ‹_› ?_|refine qao ‹_› ?_|refine qap ‹_› ?_|refine pkF ‹_› ?_|refine qac ‹_› ?_|refine qai (gff ‹_›) ?_|refine qah (gff ‹_›) ?_|refine pkT (gff ‹_›) ?_|refine qaa (gff ‹_›) ?_|refine qao (gft ‹_›) ?_|refine qap (gft ‹_›) ?_|refine pkF (gft ‹_›) ?_|refine qac (gft ‹_›) ?_|refine qai (qaq ‹_›) ?_|refine qah (qaq ‹_›) ?_|refine pkT (qaq ‹_›) ?_|refine qaa (qaq ‹_›) ?_|refine qab hC (qau (gL L i).1 0 3) ?_|refine qab hC (qau (gL L i).2.1 1 12) ?_|refine qab hC (qau (gL L i).2.2 0 100) ?_|refine qae hS (by kernel_rfl) ?_);conv => whnf)
    conv => whnf
    exact ⟨_,rfl,wkb ((bad (fun z => p1 z.2.1)).symm.trans hB)⟩
  ·have c0:(!decide (0 ≤ (gL L i).1 ∧ (gL L i).1 ≤ 3)) = true :=nt_f (decide_eq_false p0)
   repeat ((first|refine qai ‹_› ?_|refine qah ‹_› ?_|refine pkT ‹_› ?_|refine qaa ‹_› ?_|refine qao (gft ‹_›) ?_|refine qap (gft ‹_›) ?_|refine pkF (gft ‹_›) ?_|refine qac (gft ‹_›) ?_|refine qai (qaq ‹_›) ?_|refine qah (qaq ‹_›) ?_|refine pkT (qaq ‹_›) ?_|refine qaa (qaq ‹_›) ?_|refine qab hC (qau (gL L i).1 0 3) ?_|refine qab hC (qau (gL L i).2.1 1 12) ?_|refine qab hC (qau (gL L i).2.2 0 100) ?_|refine qae hS (by kernel_rfl) ?_);conv => whnf)
   conv => whnf
   exact ⟨_,rfl,wkb ((bad (fun z => p0 z.1)).symm.trans hB)⟩
 ·refine qac (qbh hi2) ?_
  conv => whnf
  refine .inl ?_
  conv => whnf
  repeat ((first|refine qai k1 ?_|refine qah k1 ?_|refine pkT k1 ?_|refine qaa k1 ?_|refine qai (qaq k1) ?_|refine qah (qaq k1) ?_|refine pkT (qaq k1) ?_|refine qaa (qaq k1) ?_|refine qae hS (by kernel_rfl) ?_);conv => whnf)
  exact ⟨_,rfl,wkb ((decide_eq_true (show areW L from ⟨⟨h1,hl⟩,fun j h => hj j (by omega)⟩)).symm.trans hB)⟩
theorem qez {x:AV} {L:List LkI} (hx:LL x L):Pure prog 70 [x] (.bool (decide (areW L))) :=by
 have lx :=hx.no
 by_cases h:1 ≤ L.length ∧ L.length ≤ 3
 ·rcases hx with ⟨_,rfl⟩ | rfl
  ·exact absurd h.1 (by decide)
  ·exact qyz h.2 h.1
 ·have k1:decide (1 ≤ (L.length:Int) ∧ (L.length:Int) ≤ 3) = false :=decide_eq_false (by omega)
  rw [decide_eq_false (show ¬ areW L from fun z => h z.1)]
  rcases hx with ⟨rfl,rfl⟩ | rfl
  all_goals
   refine qar hE rfl (by repeat' first|exact trivial|assumption|exact qag _|exact fun _ h => nomatch h|apply And.intro) (by repeat' first|exact trivial|assumption|exact qag _|exact fun _ h => nomatch h|apply And.intro) fun S q pc hS hq hC hE => ?_
   conv => whnf
   repeat ((first|refine qao k1 ?_|refine qap k1 ?_|refine pkF k1 ?_|refine qac k1 ?_|refine qao (qa0 k1) ?_|refine qap (qa0 k1) ?_|refine pkF (qa0 k1) ?_|refine qac (qa0 k1) ?_|refine qab hC (qau (([]:List LkI).length:Int) 1 3) ?_|refine qab hC (qau (L.length:Int) 1 3) ?_|refine qae hS (by kernel_rfl) ?_);conv => whnf)
   exact ⟨_,rfl,Wk.refl _⟩
theorem qy0 {L:List LkI} (hl:L.length ≤ 6) (h1:1 ≤ L.length):Pure prog 71 [lkA L] (.bool (decide (areJ L))) :=by
 obtain ⟨B,hB⟩ : ∃ B,decide (areJ L) = B :=⟨_,rfl⟩
 rw [hB]
 have lL :=qay L
 have k1:decide (1 ≤ (L.length:Int) ∧ (L.length:Int) ≤ 6) = true :=decide_eq_true (by omega)
 refine qar hE rfl (by repeat' first|exact trivial|assumption|exact qag _|exact fun _ h => nomatch h|apply And.intro) (by repeat' first|exact trivial|assumption|exact qag _|exact fun _ h => nomatch h|apply And.intro) fun S q pc hS hq hC hE => ?_
 conv => whnf
 repeat ((first|refine qai k1 ?_|refine qah k1 ?_|refine pkT k1 ?_|refine qaa k1 ?_|refine qai (qaq k1) ?_|refine qah (qaq k1) ?_|refine pkT (qaq k1) ?_|refine qaa (qaq k1) ?_|refine qab hC (qau (L.length:Int) 1 6) ?_|refine qae hS (by kernel_rfl) ?_);conv => whnf)
 refine qas hC ?_
 conv => whnf
 refine qam hE hS ?_
 conv => whnf
 refine qas hC ?_
 conv => whnf
 refine qam hE hS ?_
 conv => whnf
 refine qaz hE hS (A :=Nat) [0,1,7] (fun i => [(8,nv i)]) (fun _ => []) (fun _ => []) (fun i => i ≤ L.length ∧ ∀ j,j < i → okJ (gL L j)) (fun i => L.length - i) 0 (kle rfl) rfl (by refine ⟨rfl,rfl,rfl,rfl,rfl,rfl,0,rfl,?_,?_⟩ <;> repeat' (first|exact trivial|exact rfl|exact wkr rfl|exact wko rfl|exact Nat.zero_le _|exact qad lL|exact kle rfl|exact bdq|exact mxI rfl|exact mxS rfl|apply And.intro)) ⟨Nat.zero_le _,fun _ h => absurd h (Nat.not_lt_zero _)⟩ ?_
 intro i ⟨hi,hj⟩ K hK
 obtain rfl:K = 0 :=hK
 conv => whnf
 by_cases hi2:i < L.length
 ·refine qaa (qav hi2) ?_
  conv => whnf
  refine qaa (qaj hi2) ?_
  conv => whnf
  refine qaf (takP (qnf L hi2)) ?_
  conv => whnf
  refine qas hC ?_
  conv => whnf
  refine qam hE hS ?_
  conv => whnf
  have bad:¬ okJ (gL L i) → decide (areJ L) = false :=fun z => decide_eq_false fun k => z (k.2 i hi2)
  have hi1:IntKind.i64.wrap (Int.ofNat i + 1) = Int.ofNat (i + 1) :=qa5 (m :=i + 1) (by omega)
  by_cases p0:(1 ≤ (gL L i).1 ∧ (gL L i).1 ≤ 40)
  ·have c0:(!decide (1 ≤ (gL L i).1 ∧ (gL L i).1 ≤ 40)) = false :=nt_t (decide_eq_true p0)
   by_cases p1:(0 ≤ (gL L i).2.1 ∧ (gL L i).2.1 ≤ 3)
   ·have c1:(!decide (0 ≤ (gL L i).2.1 ∧ (gL L i).2.1 ≤ 3)) = false :=nt_t (decide_eq_true p1)
    by_cases p2:(1 ≤ (gL L i).2.2 ∧ (gL L i).2.2 ≤ 60)
    ·have c2:(!decide (1 ≤ (gL L i).2.2 ∧ (gL L i).2.2 ≤ 60)) = false :=nt_t (decide_eq_true p2)
     repeat ((first|refine qao ‹_› ?_|refine qap ‹_› ?_|refine pkF ‹_› ?_|refine qac ‹_› ?_|refine qai (gff ‹_›) ?_|refine qah (gff ‹_›) ?_|refine pkT (gff ‹_›) ?_|refine qaa (gff ‹_›) ?_|refine qab hC (qau (gL L i).1 1 40) ?_|refine qab hC (qau (gL L i).2.1 0 3) ?_|refine qab hC (qau (gL L i).2.2 1 60) ?_|refine qae hS (by kernel_rfl) ?_);conv => whnf)
     exact ⟨i + 1,⟨hi2,fun j h => by
      by_cases e:j = i
      ·rw [e];exact ⟨p0,p1,p2⟩
      ·exact hj j (by omega)⟩,by omega,Nat.le_refl _,(by refine ⟨rfl,rfl,rfl,rfl,rfl,rfl,0,rfl,?_,?_⟩ <;> repeat' (first|exact trivial|exact rfl|exact wkr rfl|exact wko rfl|exact Nat.zero_le _|exact ⟨_,rfl,WkV.int hi1⟩|exact qad lL|exact kle rfl|exact bdq|exact mxI rfl|exact mxS rfl|apply And.intro))⟩
    ·have c2:(!decide (1 ≤ (gL L i).2.2 ∧ (gL L i).2.2 ≤ 60)) = true :=nt_f (decide_eq_false p2)
     repeat ((first|refine qai ‹_› ?_|refine qah ‹_› ?_|refine pkT ‹_› ?_|refine qaa ‹_› ?_|refine qao ‹_› ?_|refine qap ‹_› ?_|refine pkF ‹_› ?_|refine qac ‹_› ?_|refine qai (gff ‹_›) ?_|refine qah (gff ‹_›) ?_|refine pkT (gff ‹_›) ?_|refine qaa (gff ‹_›) ?_|refine qao (gft ‹_›) ?_|refine qap (gft ‹_›) ?_|refine pkF (gft ‹_›) ?_|refine qac (gft ‹_›) ?_|refine qai (qaq ‹_›) ?_|refine qah (qaq ‹_›) ?_|refine pkT (qaq ‹_›) ?_|refine qaa (qaq ‹_›) ?_|refine qab hC (qau (gL L i).1 1 40) ?_|refine qab hC (qau (gL L i).2.1 0 3) ?_|refine qab hC (qau (gL L i).2.2 1 60) ?_|refine qae hS (by kernel_rfl) ?_);conv => whnf)
     conv => whnf
     exact ⟨_,rfl,wkb ((bad (fun z => p2 z.2.2)).symm.trans hB)⟩
   ·have c1:(!decide (0 ≤ (gL L i).2.1 ∧ (gL L i).2.1 ≤ 3)) = true :=nt_f (decide_eq_false p1)
    repeat ((first|refine qai ‹_› ?_|refine qah ‹_› ?_|refine pkT ‹_› ?_|refine qaa ‹_› ?_|refine qao ‹_› ?_|refine qap ‹_› ?_|refine pkF ‹_› ?_|refine qac ‹_› ?_|refine qai (gff ‹_›) ?_|refine qah (gff ‹_›) ?_|refine pkT (gff ‹_›) ?_|refine qaa (gff ‹_›) ?_|refine qao (gft ‹_›) ?_|refine qap (gft ‹_›) ?_|refine pkF (gft ‹_›) ?_|refine qac (gft ‹_›) ?_|refine qai (qaq ‹_›) ?_|refine qah (qaq ‹_›) ?_|refine pkT (qaq ‹_›) ?_|refine qaa (qaq ‹_›) ?_|refine qab hC (qau (gL L i).1 1 40) ?_|refine qab hC (qau (gL L i).2.1 0 3) ?_|refine qab hC (qau (gL L i).2.2 1 60) ?_|refine qae hS (by kernel_rfl) ?_);conv => whnf)
    conv => whnf
    exact ⟨_,rfl,wkb ((bad (fun z => p1 z.2.1)).symm.trans hB)⟩
  ·have c0:(!decide (1 ≤ (gL L i).1 ∧ (gL L i).1 ≤ 40)) = true :=nt_f (decide_eq_false p0)
   repeat ((first|refine qai ‹_› ?_|refine qah ‹_› ?_|refine pkT ‹_› ?_|refine qaa ‹_› ?_|refine qao (gft ‹_›) ?_|refine qap (gft ‹_›) ?_|refine pkF (gft ‹_›) ?_|refine qac (gft ‹_›) ?_|refine qai (qaq ‹_›) ?_|refine qah (qaq ‹_›) ?_|refine pkT (qaq ‹_›) ?_|refine qaa (qaq ‹_›) ?_|refine qab hC (qau (gL L i).1 1 40) ?_|refine qab hC (qau (gL L i).2.1 0 3) ?_|refine qab hC (qau (gL L i).2.2 1 60) ?_|refine qae hS (by kernel_rfl) ?_);conv => whnf)
   conv => whnf
   exact ⟨_,rfl,wkb ((bad (fun z => p0 z.1)).symm.trans hB)⟩
 ·refine qac (qbh hi2) ?_
  conv => whnf
  refine .inl ?_
  conv => whnf
  repeat ((first|refine qai k1 ?_|refine qah k1 ?_|refine pkT k1 ?_|refine qaa k1 ?_|refine qai (qaq k1) ?_|refine qah (qaq k1) ?_|refine pkT (qaq k1) ?_|refine qaa (qaq k1) ?_|refine qae hS (by kernel_rfl) ?_);conv => whnf)
  exact ⟨_,rfl,wkb ((decide_eq_true (show areJ L from ⟨⟨h1,hl⟩,fun j h => hj j (by omega)⟩)).symm.trans hB)⟩
theorem qe0 {x:AV} {L:List LkI} (hx:LL x L):Pure prog 71 [x] (.bool (decide (areJ L))) :=by
 have lx :=hx.no
 by_cases h:1 ≤ L.length ∧ L.length ≤ 6
 ·rcases hx with ⟨_,rfl⟩ | rfl
  ·exact absurd h.1 (by decide)
  ·exact qy0 h.2 h.1
 ·have k1:decide (1 ≤ (L.length:Int) ∧ (L.length:Int) ≤ 6) = false :=decide_eq_false (by omega)
  rw [decide_eq_false (show ¬ areJ L from fun z => h z.1)]
  rcases hx with ⟨rfl,rfl⟩ | rfl
  all_goals
   refine qar hE rfl (by repeat' first|exact trivial|assumption|exact qag _|exact fun _ h => nomatch h|apply And.intro) (by repeat' first|exact trivial|assumption|exact qag _|exact fun _ h => nomatch h|apply And.intro) fun S q pc hS hq hC hE => ?_
   conv => whnf
   repeat ((first|refine qao k1 ?_|refine qap k1 ?_|refine pkF k1 ?_|refine qac k1 ?_|refine qao (qa0 k1) ?_|refine qap (qa0 k1) ?_|refine pkF (qa0 k1) ?_|refine qac (qa0 k1) ?_|refine qab hC (qau (([]:List LkI).length:Int) 1 6) ?_|refine qab hC (qau (L.length:Int) 1 6) ?_|refine qae hS (by kernel_rfl) ?_);conv => whnf)
   exact ⟨_,rfl,Wk.refl _⟩
theorem qtm {W J:List LkI} (hw:W.length ≤ 5) (hj:J.length ≤ 8):Pure prog 26 [lkA W,lkA J] (.bool (decide (areW W ∧ areJ J))) :=by
 obtain ⟨B,hB⟩ : ∃ B,decide (areW W ∧ areJ J) = B :=⟨_,rfl⟩
 rw [hB]
 have lW :=qay W
 have lJ :=qay J
 refine qar hE rfl (by repeat' first|exact trivial|assumption|exact qag _|exact fun _ h => nomatch h|apply And.intro) (by repeat' first|exact trivial|assumption|exact qag _|exact fun _ h => nomatch h|apply And.intro) fun S q pc hS hq hC hE => ?_
 conv => whnf
 refine qaz hE hS (A :=Nat) [0,1] (fun i => [(5,nv i)]) (fun _ => []) (fun _ => []) (fun i => i ≤ W.length ∧ ∀ j,j < i → okW (gL W j)) (fun i => W.length - i) 0 (kle rfl) rfl (by refine ⟨rfl,rfl,rfl,rfl,rfl,rfl,0,rfl,?_,?_⟩ <;> repeat' (first|exact trivial|exact rfl|exact wkr rfl|exact wko rfl|exact Nat.zero_le _|exact qad lW|exact qad lJ|exact kle rfl|exact bdq|exact mxI rfl|exact mxS rfl|apply And.intro)) ⟨Nat.zero_le _,fun _ h => absurd h (Nat.not_lt_zero _)⟩ ?_
 intro i ⟨hi,hjW⟩ K hK
 obtain rfl:K = 0 :=hK
 conv => whnf
 by_cases hi2:i < W.length
 ·have g0 :=qbe W i hi2
  have g1 :=qbq W i hi2
  have g2 :=qbu W i hi2
  have bad:¬ okW (gL W i) → decide (areW W ∧ areJ J) = false :=fun z => decide_eq_false fun k => z (k.1.2 i hi2)
  have hi1:IntKind.i64.wrap (Int.ofNat i + 1) = Int.ofNat (i + 1) :=qa5 (m :=i + 1) (by omega)
  by_cases p0:(0 ≤ (gL W i).1 ∧ (gL W i).1 ≤ 3)
  ·have c0:(!decide (0 ≤ (gL W i).1 ∧ (gL W i).1 ≤ 3)) = false :=nt_t (decide_eq_true p0)
   by_cases p1:(1 ≤ (gL W i).2.1 ∧ (gL W i).2.1 ≤ 12)
   ·have c1:(!decide (1 ≤ (gL W i).2.1 ∧ (gL W i).2.1 ≤ 12)) = false :=nt_t (decide_eq_true p1)
    by_cases p2:(0 ≤ (gL W i).2.2 ∧ (gL W i).2.2 ≤ 100)
    ·have c2:(!decide (0 ≤ (gL W i).2.2 ∧ (gL W i).2.2 ≤ 100)) = false :=nt_t (decide_eq_true p2)
     try have z1:=qav hi2
     try have z2:=qaj hi2
     repeat ((first|refine qaf (nthP g0) ?_|refine qaf (nthP g1) ?_|refine qaf (nthP g2) ?_|refine qai ‹_› ?_|refine qah ‹_› ?_|refine pkT ‹_› ?_|refine qaa ‹_› ?_|refine qao ‹_› ?_|refine qap ‹_› ?_|refine pkF ‹_› ?_|refine qac ‹_› ?_|refine qai (gff ‹_›) ?_|refine qah (gff ‹_›) ?_|refine pkT (gff ‹_›) ?_|refine qaa (gff ‹_›) ?_|refine qab hC (qax (gL W i).1 0 3) ?_|refine qab hC (qax (gL W i).2.1 1 12) ?_|refine qab hC (qax (gL W i).2.2 0 100) ?_|refine qae hS (by kernel_rfl) ?_);conv => whnf)
     exact ⟨i + 1,⟨hi2,fun j h => by
      by_cases e:j = i
      ·rw [e];exact ⟨p0,p1,p2⟩
      ·exact hjW j (by omega)⟩,by omega,Nat.le_refl _,(by refine ⟨rfl,rfl,rfl,rfl,rfl,rfl,0,rfl,?_,?_⟩ <;> repeat' (first|exact trivial|exact rfl|exact wkr rfl|exact wko rfl|exact Nat.zero_le _|exact ⟨_,rfl,WkV.int hi1⟩|exact qad lW|exact qad lJ|exact kle rfl|exact bdq|exact mxI rfl|exact mxS rfl|apply And.intro))⟩
    ·have c2:(!decide (0 ≤ (gL W i).2.2 ∧ (gL W i).2.2 ≤ 100)) = true :=nt_f (decide_eq_false p2)
     try have z3:=qav hi2
     try have z4:=qaj hi2
     repeat ((first|refine qaf (nthP g0) ?_|refine qaf (nthP g1) ?_|refine qaf (nthP g2) ?_|refine qai ‹_› ?_|refine qah ‹_› ?_|refine pkT ‹_› ?_|refine qaa ‹_› ?_|refine qao ‹_› ?_|refine qap ‹_› ?_|refine pkF ‹_› ?_|refine qac ‹_› ?_|refine qai (gff ‹_›) ?_|refine qah (gff ‹_›) ?_|refine pkT (gff ‹_›) ?_|refine qaa (gff ‹_›) ?_|refine qao (gft ‹_›) ?_|refine qap (gft ‹_›) ?_|refine pkF (gft ‹_›) ?_|refine qac (gft ‹_›) ?_|refine qab hC (qax (gL W i).1 0 3) ?_|refine qab hC (qax (gL W i).2.1 1 12) ?_|refine qab hC (qax (gL W i).2.2 0 100) ?_|refine qae hS (by kernel_rfl) ?_);conv => whnf)
     exact ⟨_,rfl,wkb ((bad (fun z => p2 z.2.2)).symm.trans hB)⟩
   ·have c1:(!decide (1 ≤ (gL W i).2.1 ∧ (gL W i).2.1 ≤ 12)) = true :=nt_f (decide_eq_false p1)
    try have z5:=qav hi2
    try have z6:=qaj hi2
    repeat ((first|refine qaf (nthP g0) ?_|refine qaf (nthP g1) ?_|refine qaf (nthP g2) ?_|refine qai ‹_› ?_|refine qah ‹_› ?_|refine pkT ‹_› ?_|refine qaa ‹_› ?_|refine qao ‹_› ?_|refine qap ‹_› ?_|refine pkF ‹_› ?_|refine qac ‹_› ?_|refine qai (gff ‹_›) ?_|refine qah (gff ‹_›) ?_|refine pkT (gff ‹_›) ?_|refine qaa (gff ‹_›) ?_|refine qao (gft ‹_›) ?_|refine qap (gft ‹_›) ?_|refine pkF (gft ‹_›) ?_|refine qac (gft ‹_›) ?_|refine qab hC (qax (gL W i).1 0 3) ?_|refine qab hC (qax (gL W i).2.1 1 12) ?_|refine qab hC (qax (gL W i).2.2 0 100) ?_|refine qae hS (by kernel_rfl) ?_);conv => whnf)
    exact ⟨_,rfl,wkb ((bad (fun z => p1 z.2.1)).symm.trans hB)⟩
  ·have c0:(!decide (0 ≤ (gL W i).1 ∧ (gL W i).1 ≤ 3)) = true :=nt_f (decide_eq_false p0)
   try have z7:=qav hi2
   try have z8:=qaj hi2
   repeat ((first|refine qaf (nthP g0) ?_|refine qaf (nthP g1) ?_|refine qaf (nthP g2) ?_|refine qai ‹_› ?_|refine qah ‹_› ?_|refine pkT ‹_› ?_|refine qaa ‹_› ?_|refine qao ‹_› ?_|refine qap ‹_› ?_|refine pkF ‹_› ?_|refine qac ‹_› ?_|refine qao (gft ‹_›) ?_|refine qap (gft ‹_›) ?_|refine pkF (gft ‹_›) ?_|refine qac (gft ‹_›) ?_|refine qab hC (qax (gL W i).1 0 3) ?_|refine qab hC (qax (gL W i).2.1 1 12) ?_|refine qab hC (qax (gL W i).2.2 0 100) ?_|refine qae hS (by kernel_rfl) ?_);conv => whnf)
   exact ⟨_,rfl,wkb ((bad (fun z => p0 z.1)).symm.trans hB)⟩
 ·refine qac (qbh hi2) ?_
  conv => whnf
  refine .inl ?_
  conv => whnf
  have haW:∀ j,j < W.length → okW (gL W j) :=fun j h => hjW j (by omega)
  clear hi hi2 hjW
  refine qaz hE hS (A :=Nat) [0,1] (fun i => [(6,nv i)]) (fun _ => []) (fun _ => []) (fun i => i ≤ J.length ∧ ∀ j,j < i → okJ (gL J j)) (fun i => J.length - i) 0 (kle rfl) rfl (by refine ⟨rfl,rfl,rfl,rfl,rfl,rfl,0,rfl,?_,?_⟩ <;> repeat' (first|exact trivial|exact rfl|exact wkr rfl|exact wko rfl|exact Nat.zero_le _|exact qad lW|exact qad lJ|exact kle rfl|exact bdq|exact mxI rfl|exact mxS rfl|apply And.intro)) ⟨Nat.zero_le _,fun _ h => absurd h (Nat.not_lt_zero _)⟩ ?_
  intro i ⟨hi,hjJ⟩ K hK
  obtain rfl:K = 0 :=hK
  conv => whnf
  by_cases hi2:i < J.length
  ·have g0 :=qbe J i hi2
   have g1 :=qbq J i hi2
   have g2 :=qbu J i hi2
   have bad:¬ okJ (gL J i) → decide (areW W ∧ areJ J) = false :=fun z => decide_eq_false fun k => z (k.2.2 i hi2)
   have hi1:IntKind.i64.wrap (Int.ofNat i + 1) = Int.ofNat (i + 1) :=qa5 (m :=i + 1) (by omega)
   by_cases p0:(1 ≤ (gL J i).1 ∧ (gL J i).1 ≤ 40)
   ·have c0:(!decide (1 ≤ (gL J i).1 ∧ (gL J i).1 ≤ 40)) = false :=nt_t (decide_eq_true p0)
    by_cases p1:(0 ≤ (gL J i).2.1 ∧ (gL J i).2.1 ≤ 3)
    ·have c1:(!decide (0 ≤ (gL J i).2.1 ∧ (gL J i).2.1 ≤ 3)) = false :=nt_t (decide_eq_true p1)
     by_cases p2:(1 ≤ (gL J i).2.2 ∧ (gL J i).2.2 ≤ 60)
     ·have c2:(!decide (1 ≤ (gL J i).2.2 ∧ (gL J i).2.2 ≤ 60)) = false :=nt_t (decide_eq_true p2)
      try have z9:=qav hi2
      try have z10:=qaj hi2
      repeat ((first|refine qaf (nthP g0) ?_|refine qaf (nthP g1) ?_|refine qaf (nthP g2) ?_|refine qai ‹_› ?_|refine qah ‹_› ?_|refine pkT ‹_› ?_|refine qaa ‹_› ?_|refine qao ‹_› ?_|refine qap ‹_› ?_|refine pkF ‹_› ?_|refine qac ‹_› ?_|refine qai (gff ‹_›) ?_|refine qah (gff ‹_›) ?_|refine pkT (gff ‹_›) ?_|refine qaa (gff ‹_›) ?_|refine qab hC (qax (gL J i).1 1 40) ?_|refine qab hC (qax (gL J i).2.1 0 3) ?_|refine qab hC (qax (gL J i).2.2 1 60) ?_|refine qae hS (by kernel_rfl) ?_);conv => whnf)
      exact ⟨i + 1,⟨hi2,fun j h => by
       by_cases e:j = i
       ·rw [e];exact ⟨p0,p1,p2⟩
       ·exact hjJ j (by omega)⟩,by omega,Nat.le_refl _,(by refine ⟨rfl,rfl,rfl,rfl,rfl,rfl,0,rfl,?_,?_⟩ <;> repeat' (first|exact trivial|exact rfl|exact wkr rfl|exact wko rfl|exact Nat.zero_le _|exact ⟨_,rfl,WkV.int hi1⟩|exact qad lW|exact qad lJ|exact kle rfl|exact bdq|exact mxI rfl|exact mxS rfl|apply And.intro))⟩
     ·have c2:(!decide (1 ≤ (gL J i).2.2 ∧ (gL J i).2.2 ≤ 60)) = true :=nt_f (decide_eq_false p2)
      try have z11:=qav hi2
      try have z12:=qaj hi2
      repeat ((first|refine qaf (nthP g0) ?_|refine qaf (nthP g1) ?_|refine qaf (nthP g2) ?_|refine qai ‹_› ?_|refine qah ‹_› ?_|refine pkT ‹_› ?_|refine qaa ‹_› ?_|refine qao ‹_› ?_|refine qap ‹_› ?_|refine pkF ‹_› ?_|refine qac ‹_› ?_|refine qai (gff ‹_›) ?_|refine qah (gff ‹_›) ?_|refine pkT (gff ‹_›) ?_|refine qaa (gff ‹_›) ?_|refine qao (gft ‹_›) ?_|refine qap (gft ‹_›) ?_|refine pkF (gft ‹_›) ?_|refine qac (gft ‹_›) ?_|refine qab hC (qax (gL J i).1 1 40) ?_|refine qab hC (qax (gL J i).2.1 0 3) ?_|refine qab hC (qax (gL J i).2.2 1 60) ?_|refine qae hS (by kernel_rfl) ?_);conv => whnf)
      exact ⟨_,rfl,wkb ((bad (fun z => p2 z.2.2)).symm.trans hB)⟩
    ·have c1:(!decide (0 ≤ (gL J i).2.1 ∧ (gL J i).2.1 ≤ 3)) = true :=nt_f (decide_eq_false p1)
     try have z13:=qav hi2
     try have z14:=qaj hi2
     repeat ((first|refine qaf (nthP g0) ?_|refine qaf (nthP g1) ?_|refine qaf (nthP g2) ?_|refine qai ‹_› ?_|refine qah ‹_› ?_|refine pkT ‹_› ?_|refine qaa ‹_› ?_|refine qao ‹_› ?_|refine qap ‹_› ?_|refine pkF ‹_› ?_|refine qac ‹_› ?_|refine qai (gff ‹_›) ?_|refine qah (gff ‹_›) ?_|refine pkT (gff ‹_›) ?_|refine qaa (gff ‹_›) ?_|refine qao (gft ‹_›) ?_|refine qap (gft ‹_›) ?_|refine pkF (gft ‹_›) ?_|refine qac (gft ‹_›) ?_|refine qab hC (qax (gL J i).1 1 40) ?_|refine qab hC (qax (gL J i).2.1 0 3) ?_|refine qab hC (qax (gL J i).2.2 1 60) ?_|refine qae hS (by kernel_rfl) ?_);conv => whnf)
     exact ⟨_,rfl,wkb ((bad (fun z => p1 z.2.1)).symm.trans hB)⟩
   ·have c0:(!decide (1 ≤ (gL J i).1 ∧ (gL J i).1 ≤ 40)) = true :=nt_f (decide_eq_false p0)
    try have z15:=qav hi2
    try have z16:=qaj hi2
    repeat ((first|refine qaf (nthP g0) ?_|refine qaf (nthP g1) ?_|refine qaf (nthP g2) ?_|refine qai ‹_› ?_|refine qah ‹_› ?_|refine pkT ‹_› ?_|refine qaa ‹_› ?_|refine qao ‹_› ?_|refine qap ‹_› ?_|refine pkF ‹_› ?_|refine qac ‹_› ?_|refine qao (gft ‹_›) ?_|refine qap (gft ‹_›) ?_|refine pkF (gft ‹_›) ?_|refine qac (gft ‹_›) ?_|refine qab hC (qax (gL J i).1 1 40) ?_|refine qab hC (qax (gL J i).2.1 0 3) ?_|refine qab hC (qax (gL J i).2.2 1 60) ?_|refine qae hS (by kernel_rfl) ?_);conv => whnf)
    exact ⟨_,rfl,wkb ((bad (fun z => p0 z.1)).symm.trans hB)⟩
  ·refine qac (qbh hi2) ?_
   conv => whnf
   refine .inl ?_
   conv => whnf
   have haJ:∀ j,j < J.length → okJ (gL J j) :=fun j h => hjJ j (by omega)
   clear hi hi2 hjJ
   by_cases q1:1 ≤ W.length ∧ W.length ≤ 3
   ·have k1:decide (1 ≤ (W.length:Int) ∧ (W.length:Int) ≤ 3) = true :=decide_eq_true (by omega)
    have e:decide (1 ≤ (J.length:Int) ∧ (J.length:Int) ≤ 6) = B :=by
     rw [← hB]
     refine decide_eq_decide.2 ⟨fun z => ⟨⟨q1,haW⟩,by omega,haJ⟩,fun z => ?_⟩
     have :=z.2.1
     omega
    rw [← e]
    repeat ((first|refine qai k1 ?_|refine qah k1 ?_|refine pkT k1 ?_|refine qaa k1 ?_|refine qai (qaq k1) ?_|refine qah (qaq k1) ?_|refine pkT (qaq k1) ?_|refine qaa (qaq k1) ?_|refine qab hC (qax (W.length:Int) 1 3) ?_|refine qab hC (qax (J.length:Int) 1 6) ?_|refine qae hS (by kernel_rfl) ?_);conv => whnf)
    exact ⟨_,rfl,Wk.refl _⟩
   ·have k1:decide (1 ≤ (W.length:Int) ∧ (W.length:Int) ≤ 3) = false :=decide_eq_false (by omega)
    rw [← hB,decide_eq_false (show ¬ (areW W ∧ areJ J) from fun z => q1 z.1.1)]
    repeat ((first|refine qao k1 ?_|refine qap k1 ?_|refine pkF k1 ?_|refine qac k1 ?_|refine qao (qa0 k1) ?_|refine qap (qa0 k1) ?_|refine pkF (qa0 k1) ?_|refine qac (qa0 k1) ?_|refine qab hC (qax (W.length:Int) 1 3) ?_|refine qab hC (qax (J.length:Int) 1 6) ?_|refine qae hS (by kernel_rfl) ?_);conv => whnf)
    exact ⟨_,rfl,Wk.refl _⟩
theorem qtl {W:List LkI} (hw:W.length ≤ 5):Pure prog 26 [lkA W,.nils] (.bool (decide (areW W ∧ areJ []))) :=by
 obtain ⟨B,hB⟩ : ∃ B,decide (areW W ∧ areJ []) = B :=⟨_,rfl⟩
 rw [hB]
 have lW :=qay W
 refine qar hE rfl (by repeat' first|exact trivial|assumption|exact qag _|exact fun _ h => nomatch h|apply And.intro) (by repeat' first|exact trivial|assumption|exact qag _|exact fun _ h => nomatch h|apply And.intro) fun S q pc hS hq hC hE => ?_
 conv => whnf
 refine qaz hE hS (A :=Nat) [0,1] (fun i => [(5,nv i)]) (fun _ => []) (fun _ => []) (fun i => i ≤ W.length ∧ ∀ j,j < i → okW (gL W j)) (fun i => W.length - i) 0 (kle rfl) rfl (by refine ⟨rfl,rfl,rfl,rfl,rfl,rfl,0,rfl,?_,?_⟩ <;> repeat' (first|exact trivial|exact rfl|exact wkr rfl|exact wko rfl|exact Nat.zero_le _|exact qad lW|exact kle rfl|exact bdq|exact mxI rfl|exact mxS rfl|apply And.intro)) ⟨Nat.zero_le _,fun _ h => absurd h (Nat.not_lt_zero _)⟩ ?_
 intro i ⟨hi,hjW⟩ K hK
 obtain rfl:K = 0 :=hK
 conv => whnf
 by_cases hi2:i < W.length
 ·have g0 :=qbe W i hi2
  have g1 :=qbq W i hi2
  have g2 :=qbu W i hi2
  have bad:¬ okW (gL W i) → decide (areW W ∧ areJ []) = false :=fun z => decide_eq_false fun k => z (k.1.2 i hi2)
  have hi1:IntKind.i64.wrap (Int.ofNat i + 1) = Int.ofNat (i + 1) :=qa5 (m :=i + 1) (by omega)
  by_cases p0:(0 ≤ (gL W i).1 ∧ (gL W i).1 ≤ 3)
  ·have c0:(!decide (0 ≤ (gL W i).1 ∧ (gL W i).1 ≤ 3)) = false :=nt_t (decide_eq_true p0)
   by_cases p1:(1 ≤ (gL W i).2.1 ∧ (gL W i).2.1 ≤ 12)
   ·have c1:(!decide (1 ≤ (gL W i).2.1 ∧ (gL W i).2.1 ≤ 12)) = false :=nt_t (decide_eq_true p1)
    by_cases p2:(0 ≤ (gL W i).2.2 ∧ (gL W i).2.2 ≤ 100)
    ·have c2:(!decide (0 ≤ (gL W i).2.2 ∧ (gL W i).2.2 ≤ 100)) = false :=nt_t (decide_eq_true p2)
     try have z17:=qav hi2
     try have z18:=qaj hi2
     repeat ((first|refine qaf (nthP g0) ?_|refine qaf (nthP g1) ?_|refine qaf (nthP g2) ?_|refine qai ‹_› ?_|refine qah ‹_› ?_|refine pkT ‹_› ?_|refine qaa ‹_› ?_|refine qao ‹_› ?_|refine qap ‹_› ?_|refine pkF ‹_› ?_|refine qac ‹_› ?_|refine qai (gff ‹_›) ?_|refine qah (gff ‹_›) ?_|refine pkT (gff ‹_›) ?_|refine qaa (gff ‹_›) ?_|refine qab hC (qax (gL W i).1 0 3) ?_|refine qab hC (qax (gL W i).2.1 1 12) ?_|refine qab hC (qax (gL W i).2.2 0 100) ?_|refine qae hS (by kernel_rfl) ?_);conv => whnf)
     exact ⟨i + 1,⟨hi2,fun j h => by
      by_cases e:j = i
      ·rw [e];exact ⟨p0,p1,p2⟩
      ·exact hjW j (by omega)⟩,by omega,Nat.le_refl _,(by refine ⟨rfl,rfl,rfl,rfl,rfl,rfl,0,rfl,?_,?_⟩ <;> repeat' (first|exact trivial|exact rfl|exact wkr rfl|exact wko rfl|exact Nat.zero_le _|exact ⟨_,rfl,WkV.int hi1⟩|exact qad lW|exact kle rfl|exact bdq|exact mxI rfl|exact mxS rfl|apply And.intro))⟩
    ·have c2:(!decide (0 ≤ (gL W i).2.2 ∧ (gL W i).2.2 ≤ 100)) = true :=nt_f (decide_eq_false p2)
     try have z19:=qav hi2
     try have z20:=qaj hi2
     repeat ((first|refine qaf (nthP g0) ?_|refine qaf (nthP g1) ?_|refine qaf (nthP g2) ?_|refine qai ‹_› ?_|refine qah ‹_› ?_|refine pkT ‹_› ?_|refine qaa ‹_› ?_|refine qao ‹_› ?_|refine qap ‹_› ?_|refine pkF ‹_› ?_|refine qac ‹_› ?_|refine qai (gff ‹_›) ?_|refine qah (gff ‹_›) ?_|refine pkT (gff ‹_›) ?_|refine qaa (gff ‹_›) ?_|refine qao (gft ‹_›) ?_|refine qap (gft ‹_›) ?_|refine pkF (gft ‹_›) ?_|refine qac (gft ‹_›) ?_|refine qab hC (qax (gL W i).1 0 3) ?_|refine qab hC (qax (gL W i).2.1 1 12) ?_|refine qab hC (qax (gL W i).2.2 0 100) ?_|refine qae hS (by kernel_rfl) ?_);conv => whnf)
     exact ⟨_,rfl,wkb ((bad (fun z => p2 z.2.2)).symm.trans hB)⟩
   ·have c1:(!decide (1 ≤ (gL W i).2.1 ∧ (gL W i).2.1 ≤ 12)) = true :=nt_f (decide_eq_false p1)
    try have z21:=qav hi2
    try have z22:=qaj hi2
    repeat ((first|refine qaf (nthP g0) ?_|refine qaf (nthP g1) ?_|refine qaf (nthP g2) ?_|refine qai ‹_› ?_|refine qah ‹_› ?_|refine pkT ‹_› ?_|refine qaa ‹_› ?_|refine qao ‹_› ?_|refine qap ‹_› ?_|refine pkF ‹_› ?_|refine qac ‹_› ?_|refine qai (gff ‹_›) ?_|refine qah (gff ‹_›) ?_|refine pkT (gff ‹_›) ?_|refine qaa (gff ‹_›) ?_|refine qao (gft ‹_›) ?_|refine qap (gft ‹_›) ?_|refine pkF (gft ‹_›) ?_|refine qac (gft ‹_›) ?_|refine qab hC (qax (gL W i).1 0 3) ?_|refine qab hC (qax (gL W i).2.1 1 12) ?_|refine qab hC (qax (gL W i).2.2 0 100) ?_|refine qae hS (by kernel_rfl) ?_);conv => whnf)
    exact ⟨_,rfl,wkb ((bad (fun z => p1 z.2.1)).symm.trans hB)⟩
  ·have c0:(!decide (0 ≤ (gL W i).1 ∧ (gL W i).1 ≤ 3)) = true :=nt_f (decide_eq_false p0)
   try have z23:=qav hi2
   try have z24:=qaj hi2
   repeat ((first|refine qaf (nthP g0) ?_|refine qaf (nthP g1) ?_|refine qaf (nthP g2) ?_|refine qai ‹_› ?_|refine qah ‹_› ?_|refine pkT ‹_› ?_|refine qaa ‹_› ?_|refine qao ‹_› ?_|refine qap ‹_› ?_|refine pkF ‹_› ?_|refine qac ‹_› ?_|refine qao (gft ‹_›) ?_|refine qap (gft ‹_›) ?_|refine pkF (gft ‹_›) ?_|refine qac (gft ‹_›) ?_|refine qab hC (qax (gL W i).1 0 3) ?_|refine qab hC (qax (gL W i).2.1 1 12) ?_|refine qab hC (qax (gL W i).2.2 0 100) ?_|refine qae hS (by kernel_rfl) ?_);conv => whnf)
   exact ⟨_,rfl,wkb ((bad (fun z => p0 z.1)).symm.trans hB)⟩
 ·refine qac (qbh hi2) ?_
  conv => whnf
  refine .inl ?_
  conv => whnf
  have haW:∀ j,j < W.length → okW (gL W j) :=fun j h => hjW j (by omega)
  clear hi hi2 hjW
  refine qal hE hS ?_
  conv => whnf
  rw [← hB,decide_eq_false (show ¬ (areW W ∧ areJ []) from fun z => absurd z.2.1.1 (by decide))]
  by_cases q1:1 ≤ W.length ∧ W.length ≤ 3
  ·have k1:decide (1 ≤ (W.length:Int) ∧ (W.length:Int) ≤ 3) = true :=decide_eq_true (by omega)
   repeat ((first|refine qai k1 ?_|refine qah k1 ?_|refine pkT k1 ?_|refine qaa k1 ?_|refine qai (qaq k1) ?_|refine qah (qaq k1) ?_|refine pkT (qaq k1) ?_|refine qaa (qaq k1) ?_|refine qab hC (qax (W.length:Int) 1 3) ?_|refine qab hC (qax 0 1 6) ?_|refine qae hS (by kernel_rfl) ?_);conv => whnf)
   exact ⟨_,rfl,Wk.refl _⟩
  ·have k1:decide (1 ≤ (W.length:Int) ∧ (W.length:Int) ≤ 3) = false :=decide_eq_false (by omega)
   repeat ((first|refine qao k1 ?_|refine qap k1 ?_|refine pkF k1 ?_|refine qac k1 ?_|refine qao (qa0 k1) ?_|refine qap (qa0 k1) ?_|refine pkF (qa0 k1) ?_|refine qac (qa0 k1) ?_|refine qab hC (qax (W.length:Int) 1 3) ?_|refine qab hC (qax 0 1 6) ?_|refine qae hS (by kernel_rfl) ?_);conv => whnf)
   exact ⟨_,rfl,Wk.refl _⟩
theorem qtk {J:List LkI} (hj:J.length ≤ 8):Pure prog 26 [.nils,lkA J] (.bool (decide (areW [] ∧ areJ J))) :=by
 obtain ⟨B,hB⟩ : ∃ B,decide (areW [] ∧ areJ J) = B :=⟨_,rfl⟩
 have hF:decide (areW [] ∧ areJ J) = false :=decide_eq_false fun z => absurd z.1.1.1 (by decide)
 have k1:decide (1 ≤ (0:Int) ∧ (0:Int) ≤ 3) = false :=by decide
 rw [hB]
 have lJ :=qay J
 refine qar hE rfl (by repeat' first|exact trivial|assumption|exact qag _|exact fun _ h => nomatch h|apply And.intro) (by repeat' first|exact trivial|assumption|exact qag _|exact fun _ h => nomatch h|apply And.intro) fun S q pc hS hq hC hE => ?_
 conv => whnf
 refine qal hE hS ?_
 conv => whnf
 refine qaz hE hS (A :=Nat) [0,1] (fun i => [(6,nv i)]) (fun _ => []) (fun _ => []) (fun i => i ≤ J.length ∧ ∀ j,j < i → okJ (gL J j)) (fun i => J.length - i) 0 (kle rfl) rfl (by refine ⟨rfl,rfl,rfl,rfl,rfl,rfl,0,rfl,?_,?_⟩ <;> repeat' (first|exact trivial|exact rfl|exact wkr rfl|exact wko rfl|exact Nat.zero_le _|exact qad lJ|exact kle rfl|exact bdq|exact mxI rfl|exact mxS rfl|apply And.intro)) ⟨Nat.zero_le _,fun _ h => absurd h (Nat.not_lt_zero _)⟩ ?_
 intro i ⟨hi,hjJ⟩ K hK
 obtain rfl:K = 0 :=hK
 conv => whnf
 by_cases hi2:i < J.length
 ·have g0 :=qbe J i hi2
  have g1 :=qbq J i hi2
  have g2 :=qbu J i hi2
  have bad:¬ okJ (gL J i) → decide (areW [] ∧ areJ J) = false :=fun z => decide_eq_false fun k => z (k.2.2 i hi2)
  have hi1:IntKind.i64.wrap (Int.ofNat i + 1) = Int.ofNat (i + 1) :=qa5 (m :=i + 1) (by omega)
  by_cases p0:(1 ≤ (gL J i).1 ∧ (gL J i).1 ≤ 40)
  ·have c0:(!decide (1 ≤ (gL J i).1 ∧ (gL J i).1 ≤ 40)) = false :=nt_t (decide_eq_true p0)
   by_cases p1:(0 ≤ (gL J i).2.1 ∧ (gL J i).2.1 ≤ 3)
   ·have c1:(!decide (0 ≤ (gL J i).2.1 ∧ (gL J i).2.1 ≤ 3)) = false :=nt_t (decide_eq_true p1)
    by_cases p2:(1 ≤ (gL J i).2.2 ∧ (gL J i).2.2 ≤ 60)
    ·have c2:(!decide (1 ≤ (gL J i).2.2 ∧ (gL J i).2.2 ≤ 60)) = false :=nt_t (decide_eq_true p2)
     try have z25:=qav hi2
     try have z26:=qaj hi2
     repeat ((first|refine qaf (nthP g0) ?_|refine qaf (nthP g1) ?_|refine qaf (nthP g2) ?_|refine qai ‹_› ?_|refine qah ‹_› ?_|refine pkT ‹_› ?_|refine qaa ‹_› ?_|refine qao ‹_› ?_|refine qap ‹_› ?_|refine pkF ‹_› ?_|refine qac ‹_› ?_|refine qai (gff ‹_›) ?_|refine qah (gff ‹_›) ?_|refine pkT (gff ‹_›) ?_|refine qaa (gff ‹_›) ?_|refine qab hC (qax (gL J i).1 1 40) ?_|refine qab hC (qax (gL J i).2.1 0 3) ?_|refine qab hC (qax (gL J i).2.2 1 60) ?_|refine qae hS (by kernel_rfl) ?_);conv => whnf)
     exact ⟨i + 1,⟨hi2,fun j h => by
      by_cases e:j = i
      ·rw [e];exact ⟨p0,p1,p2⟩
      ·exact hjJ j (by omega)⟩,by omega,Nat.le_refl _,(by refine ⟨rfl,rfl,rfl,rfl,rfl,rfl,0,rfl,?_,?_⟩ <;> repeat' (first|exact trivial|exact rfl|exact wkr rfl|exact wko rfl|exact Nat.zero_le _|exact ⟨_,rfl,WkV.int hi1⟩|exact qad lJ|exact kle rfl|exact bdq|exact mxI rfl|exact mxS rfl|apply And.intro))⟩
    ·have c2:(!decide (1 ≤ (gL J i).2.2 ∧ (gL J i).2.2 ≤ 60)) = true :=nt_f (decide_eq_false p2)
     try have z27:=qav hi2
     try have z28:=qaj hi2
     repeat ((first|refine qaf (nthP g0) ?_|refine qaf (nthP g1) ?_|refine qaf (nthP g2) ?_|refine qai ‹_› ?_|refine qah ‹_› ?_|refine pkT ‹_› ?_|refine qaa ‹_› ?_|refine qao ‹_› ?_|refine qap ‹_› ?_|refine pkF ‹_› ?_|refine qac ‹_› ?_|refine qai (gff ‹_›) ?_|refine qah (gff ‹_›) ?_|refine pkT (gff ‹_›) ?_|refine qaa (gff ‹_›) ?_|refine qao (gft ‹_›) ?_|refine qap (gft ‹_›) ?_|refine pkF (gft ‹_›) ?_|refine qac (gft ‹_›) ?_|refine qab hC (qax (gL J i).1 1 40) ?_|refine qab hC (qax (gL J i).2.1 0 3) ?_|refine qab hC (qax (gL J i).2.2 1 60) ?_|refine qae hS (by kernel_rfl) ?_);conv => whnf)
     exact ⟨_,rfl,wkb ((bad (fun z => p2 z.2.2)).symm.trans hB)⟩
   ·have c1:(!decide (0 ≤ (gL J i).2.1 ∧ (gL J i).2.1 ≤ 3)) = true :=nt_f (decide_eq_false p1)
    try have z29:=qav hi2
    try have z30:=qaj hi2
    repeat ((first|refine qaf (nthP g0) ?_|refine qaf (nthP g1) ?_|refine qaf (nthP g2) ?_|refine qai ‹_› ?_|refine qah ‹_› ?_|refine pkT ‹_› ?_|refine qaa ‹_› ?_|refine qao ‹_› ?_|refine qap ‹_› ?_|refine pkF ‹_› ?_|refine qac ‹_› ?_|refine qai (gff ‹_›) ?_|refine qah (gff ‹_›) ?_|refine pkT (gff ‹_›) ?_|refine qaa (gff ‹_›) ?_|refine qao (gft ‹_›) ?_|refine qap (gft ‹_›) ?_|refine pkF (gft ‹_›) ?_|refine qac (gft ‹_›) ?_|refine qab hC (qax (gL J i).1 1 40) ?_|refine qab hC (qax (gL J i).2.1 0 3) ?_|refine qab hC (qax (gL J i).2.2 1 60) ?_|refine qae hS (by kernel_rfl) ?_);conv => whnf)
    exact ⟨_,rfl,wkb ((bad (fun z => p1 z.2.1)).symm.trans hB)⟩
  ·have c0:(!decide (1 ≤ (gL J i).1 ∧ (gL J i).1 ≤ 40)) = true :=nt_f (decide_eq_false p0)
   try have z31:=qav hi2
   try have z32:=qaj hi2
   repeat ((first|refine qaf (nthP g0) ?_|refine qaf (nthP g1) ?_|refine qaf (nthP g2) ?_|refine qai ‹_› ?_|refine qah ‹_› ?_|refine pkT ‹_› ?_|refine qaa ‹_› ?_|refine qao ‹_› ?_|refine qap ‹_› ?_|refine pkF ‹_› ?_|refine qac ‹_› ?_|refine qao (gft ‹_›) ?_|refine qap (gft ‹_›) ?_|refine pkF (gft ‹_›) ?_|refine qac (gft ‹_›) ?_|refine qab hC (qax (gL J i).1 1 40) ?_|refine qab hC (qax (gL J i).2.1 0 3) ?_|refine qab hC (qax (gL J i).2.2 1 60) ?_|refine qae hS (by kernel_rfl) ?_);conv => whnf)
   exact ⟨_,rfl,wkb ((bad (fun z => p0 z.1)).symm.trans hB)⟩
 ·refine qac (qbh hi2) ?_
  conv => whnf
  refine .inl ?_
  conv => whnf
  have haJ:∀ j,j < J.length → okJ (gL J j) :=fun j h => hjJ j (by omega)
  clear hi hi2 hjJ
  repeat ((first|refine qao k1 ?_|refine qap k1 ?_|refine pkF k1 ?_|refine qac k1 ?_|refine qao (qa0 k1) ?_|refine qap (qa0 k1) ?_|refine pkF (qa0 k1) ?_|refine qac (qa0 k1) ?_|refine qab hC (qax 0 1 3) ?_|refine qae hS (by kernel_rfl) ?_);conv => whnf)
  rw [← hB,hF]
  exact ⟨_,rfl,Wk.refl _⟩
theorem qtj:Pure prog 26 [.nils,.nils] (.bool (decide (areW [] ∧ areJ []))) :=by
 rw [decide_eq_false (show ¬ (areW [] ∧ areJ []) from fun z => absurd z.1.1.1 (by decide))]
 have k1:decide (1 ≤ (0:Int) ∧ (0:Int) ≤ 3) = false :=by decide
 refine qar hE rfl (by repeat' first|exact trivial|assumption|exact qag _|exact fun _ h => nomatch h|apply And.intro) (by repeat' first|exact trivial|assumption|exact qag _|exact fun _ h => nomatch h|apply And.intro) fun S q pc hS hq hC hE => ?_
 conv => whnf
 refine qal hE hS ?_
 conv => whnf
 refine qal hE hS ?_
 conv => whnf
 repeat ((first|refine qao k1 ?_|refine qap k1 ?_|refine pkF k1 ?_|refine qac k1 ?_|refine qao (qa0 k1) ?_|refine qap (qa0 k1) ?_|refine pkF (qa0 k1) ?_|refine qac (qa0 k1) ?_|refine qab hC (qax 0 1 3) ?_|refine qae hS (by kernel_rfl) ?_);conv => whnf)
 exact ⟨_,rfl,Wk.refl _⟩
theorem qij {x y:AV} {W J:List LkI} (hx:LL x W) (hy:LL y J) (hw:W.length ≤ 5) (hj:J.length ≤ 8):Pure prog 26 [x,y] (.bool (decide (areW W ∧ areJ J))) :=by
 rcases hx with ⟨rfl,rfl⟩ | rfl <;> rcases hy with ⟨rfl,rfl⟩ | rfl
 ·exact qtj
 ·exact qtk hj
 ·exact qtl hw
 ·exact qtm hw hj
def qeh (W J:List LkI) (P:List Int) (i:Nat):Prop :=(0 ≤ gi P i ∧ gi P i ≤ (W.length:Int) - 1) ∧ (gL J i).2.1 ≤ (gL W (gi P i).toNat).1
def isPl (W J:List LkI) (P:List Int):Prop :=P.length = J.length ∧ ∀ i,i < P.length → qeh W J P i
instance (W J:List LkI) (P:List Int):Decidable (isPl W J P) :=Classical.propDecidable _
theorem qhk {W J:List LkI} {P:List Int} (hw:1 ≤ W.length ∧ W.length ≤ 3) (hp:P.length ≤ 8):Pure prog 27 [lkA W,lkA J,nl P] (.bool (decide (isPl W J P))) :=by
 obtain ⟨B,hB⟩ : ∃ B,decide (isPl W J P) = B :=⟨_,rfl⟩
 rw [hB]
 have lW :=qay W
 have lJ :=qay J
 have lP :=qat P
 by_cases hl:P.length = J.length
 ·have c0:((P.length:Int) != (J.length:Int)) = false :=by rw [hl];exact bne_self_eq_false _
  have hwr:IntKind.i64.wrap ((W.length:Int) - 1) = (W.length:Int) - 1 :=qd8 (by omega) (by omega)
  refine qar hE rfl (by repeat' first|exact trivial|assumption|exact qag _|exact fun _ h => nomatch h|apply And.intro) (by repeat' first|exact trivial|assumption|exact qag _|exact fun _ h => nomatch h|apply And.intro) fun S q pc hS hq hC hE => ?_
  conv => whnf
  repeat ((first|refine qao c0 ?_|refine qap c0 ?_|refine pkF c0 ?_|refine qac c0 ?_|refine qae hS (by kernel_rfl) ?_);conv => whnf)
  refine qaz hE hS (A :=Nat) [0,1,2] (fun i => [(7,nv i)]) (fun _ => []) (fun _ => []) (fun i => i ≤ P.length ∧ ∀ j,j < i → qeh W J P j) (fun i => P.length - i) 0 (kle rfl) rfl (by refine ⟨rfl,rfl,rfl,rfl,rfl,rfl,0,rfl,?_,?_⟩ <;> repeat' (first|exact trivial|exact rfl|exact wkr rfl|exact wko rfl|exact Nat.zero_le _|exact qad lW|exact qad lJ|exact qad lP|exact kle rfl|exact bdq|exact mxI rfl|exact mxS rfl|apply And.intro)) ⟨Nat.zero_le _,fun _ h => absurd h (Nat.not_lt_zero _)⟩ ?_
  intro i ⟨hi,hj⟩ K hK
  obtain rfl:K = 0 :=hK
  conv => whnf
  by_cases hi2:i < P.length
  ·have hi1:IntKind.i64.wrap (Int.ofNat i + 1) = Int.ofNat (i + 1) :=qa5 (m :=i + 1) (by omega)
   have hiJ:i < J.length :=by omega
   have gp :=qbb (l :=P) (i :=i) hi2
   have g1 :=qbq J i hiJ
   have bad:¬ qeh W J P i → decide (isPl W J P) = false :=fun z => decide_eq_false fun k => z (k.2 i hi2)
   by_cases q0:0 ≤ gi P i ∧ gi P i ≤ (W.length:Int) - 1
   ·have c1:(!decide (0 ≤ gi P i ∧ gi P i ≤ IntKind.i64.wrap ((W.length:Int) - 1))) = false :=nt_t (decide_eq_true (by rw [hwr];exact q0))
    have hpw:(gi P i).toNat < W.length :=by omega
    have iw:inR (gi P i) W.length = true :=by
     rw [show gi P i = Int.ofNat (gi P i).toNat from (Int.toNat_of_nonneg q0.1).symm]
     exact qaj hpw
    have gw :=qbe W (gi P i).toNat hpw
    by_cases q1:(gL W (gi P i).toNat).1 < (gL J i).2.1
    ·have c2:decide ((gL W (gi P i).toNat).1 < (gL J i).2.1) = true :=decide_eq_true q1
     try have z33:=qav hi2
     try have z34:=qaj hi2
     try have z35:=qaj hiJ
     repeat ((first|refine qaf (nthP gp) ?_|refine qaf (nthP g1) ?_|refine qaf (nthP gw) ?_|refine qai ‹_› ?_|refine qah ‹_› ?_|refine pkT ‹_› ?_|refine qaa ‹_› ?_|refine qao ‹_› ?_|refine qap ‹_› ?_|refine pkF ‹_› ?_|refine qac ‹_› ?_|refine qai (gff ‹_›) ?_|refine qah (gff ‹_›) ?_|refine pkT (gff ‹_›) ?_|refine qaa (gff ‹_›) ?_|refine qab hC (qax (gi P i) 0 (IntKind.i64.wrap ((W.length:Int) - 1))) ?_|refine qae hS (by kernel_rfl) ?_);conv => whnf)
     exact ⟨_,rfl,wkb ((bad (fun z => by have :=z.2;omega)).symm.trans hB)⟩
    ·have c2:decide ((gL W (gi P i).toNat).1 < (gL J i).2.1) = false :=decide_eq_false q1
     try have z36:=qav hi2
     try have z37:=qaj hi2
     try have z38:=qaj hiJ
     repeat ((first|refine qaf (nthP gp) ?_|refine qaf (nthP g1) ?_|refine qaf (nthP gw) ?_|refine qai ‹_› ?_|refine qah ‹_› ?_|refine pkT ‹_› ?_|refine qaa ‹_› ?_|refine qao ‹_› ?_|refine qap ‹_› ?_|refine pkF ‹_› ?_|refine qac ‹_› ?_|refine qai (gff ‹_›) ?_|refine qah (gff ‹_›) ?_|refine pkT (gff ‹_›) ?_|refine qaa (gff ‹_›) ?_|refine qab hC (qax (gi P i) 0 (IntKind.i64.wrap ((W.length:Int) - 1))) ?_|refine qae hS (by kernel_rfl) ?_);conv => whnf)
     exact ⟨i + 1,⟨hi2,fun j h => by
      by_cases e:j = i
      ·rw [e];exact ⟨q0,by omega⟩
      ·exact hj j (by omega)⟩,by omega,Nat.le_refl _,(by refine ⟨rfl,rfl,rfl,rfl,rfl,rfl,0,rfl,?_,?_⟩ <;> repeat' (first|exact trivial|exact rfl|exact wkr rfl|exact wko rfl|exact Nat.zero_le _|exact ⟨_,rfl,WkV.int hi1⟩|exact qad lW|exact qad lJ|exact qad lP|exact kle rfl|exact bdq|exact mxI rfl|exact mxS rfl|apply And.intro))⟩
   ·have c1:(!decide (0 ≤ gi P i ∧ gi P i ≤ IntKind.i64.wrap ((W.length:Int) - 1))) = true :=nt_f (decide_eq_false (by rw [hwr];exact q0))
    try have z39:=qav hi2
    try have z40:=qaj hi2
    repeat ((first|refine qaf (nthP gp) ?_|refine qai ‹_› ?_|refine qah ‹_› ?_|refine pkT ‹_› ?_|refine qaa ‹_› ?_|refine qao ‹_› ?_|refine qap ‹_› ?_|refine pkF ‹_› ?_|refine qac ‹_› ?_|refine qao (gft ‹_›) ?_|refine qap (gft ‹_›) ?_|refine pkF (gft ‹_›) ?_|refine qac (gft ‹_›) ?_|refine qab hC (qax (gi P i) 0 (IntKind.i64.wrap ((W.length:Int) - 1))) ?_|refine qae hS (by kernel_rfl) ?_);conv => whnf)
    exact ⟨_,rfl,wkb ((bad (fun z => q0 z.1)).symm.trans hB)⟩
  ·refine qac (qbh hi2) ?_
   conv => whnf
   refine .inl ?_
   conv => whnf
   exact ⟨_,rfl,wkb ((decide_eq_true (show isPl W J P from ⟨hl,fun j h => hj j (by omega)⟩)).symm.trans hB)⟩
 ·have c0:((P.length:Int) != (J.length:Int)) = true :=bne_iff_ne.2 fun z => hl (Int.ofNat.inj z)
  rw [← hB,decide_eq_false (show ¬ isPl W J P from fun z => hl z.1)]
  refine qar hE rfl (by repeat' first|exact trivial|assumption|exact qag _|exact fun _ h => nomatch h|apply And.intro) (by repeat' first|exact trivial|assumption|exact qag _|exact fun _ h => nomatch h|apply And.intro) fun S q pc hS hq hC hE => ?_
  conv => whnf
  repeat ((first|refine qai c0 ?_|refine qah c0 ?_|refine pkT c0 ?_|refine qaa c0 ?_|refine qae hS (by kernel_rfl) ?_);conv => whnf)
  exact ⟨_,rfl,Wk.refl _⟩
theorem qgk {W J:List LkI} {h:AV} {P:List Int} (hh:IL h P) (hw:1 ≤ W.length ∧ W.length ≤ 3) (hj:1 ≤ J.length) (hp:P.length ≤ 8):Pure prog 27 [lkA W,lkA J,h] (.bool (decide (isPl W J P))) :=by
 rcases hh with ⟨rfl,rfl⟩ | rfl
 ·have lW :=qay W
  have lJ :=qay J
  have c0:((0:Int) != (J.length:Int)) = true :=bne_iff_ne.2 fun z => by omega
  rw [decide_eq_false (show ¬ isPl W J [] from fun z => by have :=z.1;rw [List.length_nil] at this;omega)]
  refine qar hE rfl (by repeat' first|exact trivial|assumption|exact qag _|exact fun _ h => nomatch h|apply And.intro) (by repeat' first|exact trivial|assumption|exact qag _|exact fun _ h => nomatch h|apply And.intro) fun S q pc hS hq hC hE => ?_
  conv => whnf
  repeat ((first|refine qai c0 ?_|refine qah c0 ?_|refine pkT c0 ?_|refine qaa c0 ?_|refine qae hS (by kernel_rfl) ?_);conv => whnf)
  exact ⟨_,rfl,Wk.refl _⟩
 ·exact qhk hw hp
def wgJ (W J:List LkI) (P:List Int):Nat → Int
 | 0 => 0
 |i + 1 => wgJ W J P i + (gL J i).1 * (gL W (gi P i).toNat).2.2
theorem qkp {W J:List LkI} {P:List Int} (hW:areW W) (hJ:areJ J) (h:isPl W J P):∀ i,i ≤ P.length → 0 ≤ wgJ W J P i ∧ wgJ W J P i ≤ (i:Int) * 4000
 | 0,_ => ⟨Int.le_refl _,by simp [wgJ]⟩
 |i + 1,hi => by
  have ih :=qkp hW hJ h i (by omega)
  have hp :=(h.2 i hi).1
  have hj :=(hJ.2 i (by have :=h.1;omega)).1
  have hw :=(hW.2 (gi P i).toNat (by omega)).2.2
  have m1 :=Int.mul_nonneg (show 0 ≤ (gL J i).1 by omega) hw.1
  have m2 :=Int.mul_le_mul hj.2 hw.2 hw.1 (by decide)
  rw [wgJ]
  omega
theorem qdi {W J:List LkI} {P:List Int} (hW:areW W) (hJ:areJ J) (h:isPl W J P):Pure prog 29 [lkA W,lkA J,nl P] (iv (wgJ W J P P.length)) :=by
 have lW :=qay W
 have lJ :=qay J
 have lP :=qat P
 have hl :=h.1
 have hJ6 :=hJ.1.2
 refine qar hE rfl (by repeat' first|exact trivial|assumption|exact qag _|exact fun _ h => nomatch h|apply And.intro) (by repeat' first|exact trivial|assumption|exact qag _|exact fun _ h => nomatch h|apply And.intro) fun S q pc hS hq hC hE => ?_
 conv => whnf
 refine qaz hE hS (A :=Nat) [0,1,2] (fun i => [(7,iv (wgJ W J P i)),(8,nv i)]) (fun _ => []) (fun _ => []) (fun i => i ≤ P.length) (fun i => P.length - i) 0 (kle rfl) rfl (by refine ⟨rfl,rfl,rfl,rfl,rfl,rfl,0,rfl,?_,?_⟩ <;> repeat' (first|exact trivial|exact rfl|exact wkr rfl|exact wko rfl|exact Nat.zero_le _|exact qad lW|exact qad lJ|exact qad lP|exact kle rfl|exact bdq|exact mxI rfl|exact mxS rfl|apply And.intro)) (Nat.zero_le _) ?_
 intro i hi K hK
 obtain rfl:K = 0 :=hK
 conv => whnf
 by_cases hi2:i < P.length
 ·have hi1:IntKind.i64.wrap (Int.ofNat i + 1) = Int.ofNat (i + 1) :=qa5 (m :=i + 1) (by omega)
  have hiJ:i < J.length :=by omega
  have hp :=(h.2 i hi2).1
  have hpw:(gi P i).toNat < W.length :=by omega
  have iw:inR (gi P i) W.length = true :=by
   rw [show gi P i = Int.ofNat (gi P i).toNat from (Int.toNat_of_nonneg hp.1).symm]
   exact qaj hpw
  have gp :=qbb (l :=P) (i :=i) hi2
  have g0 :=qbe J i hiJ
  have gw :=qbu W (gi P i).toNat hpw
  have b1 :=qkp hW hJ h i hi
  have b2 :=qkp hW hJ h (i + 1) hi2
  have hw:IntKind.i64.wrap (wgJ W J P i + IntKind.i64.wrap ((gL J i).1 * (gL W (gi P i).toNat).2.2)) = wgJ W J P (i + 1) :=by
   rw [wgJ] at b2 ⊢
   rw [show IntKind.i64.wrap ((gL J i).1 * (gL W (gi P i).toNat).2.2) = (gL J i).1 * (gL W (gi P i).toNat).2.2 from qd8 (by omega) (by omega)]
   exact qd8 (by omega) (by omega)
  try have z41:=qav hi2
  try have z42:=qaj hi2
  try have z43:=qaj hiJ
  repeat ((first|refine qaf (nthP gp) ?_|refine qaf (nthP g0) ?_|refine qaf (nthP gw) ?_|refine qai ‹_› ?_|refine qah ‹_› ?_|refine pkT ‹_› ?_|refine qaa ‹_› ?_|refine qao ‹_› ?_|refine qap ‹_› ?_|refine pkF ‹_› ?_|refine qac ‹_› ?_|refine qae hS (by kernel_rfl) ?_);conv => whnf)
  exact ⟨i + 1,hi2,by omega,Nat.le_refl _,(by refine ⟨rfl,rfl,rfl,rfl,rfl,rfl,0,rfl,?_,?_⟩ <;> repeat' (first|exact trivial|exact rfl|exact wkr rfl|exact wko rfl|exact Nat.zero_le _|exact ⟨_,rfl,WkV.int hw⟩|exact ⟨_,rfl,WkV.int hi1⟩|exact qad lW|exact qad lJ|exact qad lP|exact kle rfl|exact bdq|exact mxI rfl|exact mxS rfl|apply And.intro))⟩
 ·refine qac (qbh hi2) ?_
  conv => whnf
  refine .inl ?_
  conv => whnf
  have ei:i = P.length :=by omega
  rw [← ei]
  exact ⟨_,rfl,Wk.refl _⟩
def bfrJ (J:List LkI) (i k:Nat):Prop :=(gL J k).2.2 < (gL J i).2.2 ∨ (gL J k).2.2 = (gL J i).2.2 ∧ k ≤ i
instance (J:List LkI) (i k:Nat):Decidable (bfrJ J i k) :=inferInstanceAs (Decidable (_ ∨ _ ∧ _))
def hrN (J:List LkI) (P:List Int) (i:Nat):Nat → Nat
 | 0 => 0
 |k + 1 => hrN J P i k + if gi P k = gi P i ∧ bfrJ J i k then (gL J k).1.toNat else 0
def dyN (W J:List LkI) (P:List Int) (i:Nat):Nat :=(hrN J P i J.length + (gL W (gi P i).toNat).2.1.toNat - 1) / (gL W (gi P i).toNat).2.1.toNat
def dnT (W J:List LkI) (P:List Int) (i:Nat):List Int :=(List.range i).map fun j => Int.ofNat (dyN W J P j)
abbrev dnL (W J:List LkI) (P:List Int):List Int :=dnT W J P J.length
theorem qcw (W J:List LkI) (P:List Int) (i:Nat):(dnT W J P i).length = i :=by unfold dnT;rw [List.length_map,List.length_range]
theorem qkg (W J:List LkI) (P:List Int) (i:Nat):dnT W J P (i + 1) = dnT W J P i ++ [Int.ofNat (dyN W J P i)] :=by
 unfold dnT
 rw [List.range_succ,List.map_append];rfl
theorem qfw {J:List LkI} (hJ:areJ J) (P:List Int) (i:Nat):∀ k,k ≤ J.length → hrN J P i k ≤ k * 40
 | 0,_ => Nat.le_refl _
 |k + 1,h => by
  have ih :=qfw hJ P i k (by omega)
  have :=(hJ.2 k h).1
  rw [hrN]
  split <;> omega
theorem qik {W J:List LkI} {P:List Int} (hW:areW W) (hJ:areJ J) (h:isPl W J P):Pure prog 28 [lkA W,lkA J,nl P] (nl (dnL W J P)) :=by
 have lW :=qay W
 have lJ :=qay J
 have lP :=qat P
 have lD :=qat (dnL W J P)
 have hJ6 :=hJ.1
 have hW3 :=hW.1
 refine qar hE rfl (by repeat' first|exact trivial|assumption|exact qag _|exact fun _ h => nomatch h|apply And.intro) (by repeat' first|exact trivial|assumption|exact qag _|exact fun _ h => nomatch h|apply And.intro) fun S q pc hS hq hC hE => ?_
 conv => whnf
 refine qaz hE hS (A :=Nat × AV × List AObj) [0,1,2] (fun (i,v,_) => [(7,v),(8,nv i)]) (fun _ => []) (fun a => a.2.2) (fun (i,v,ux) => i ≤ J.length ∧ (i = 0 ∧ v = .nils ∧ ux = [] ∨ 1 ≤ i ∧ v = .lst (ivs (dnT W J P i)) (dnT W J P i).length (.ch 0) ∧ ux = [.chain (dnT W J P i).length 1 3])) (fun (i,_,_) => J.length - i) (0,.nils,[]) (kle rfl) rfl (by refine ⟨rfl,rfl,rfl,rfl,rfl,rfl,0,rfl,?_,?_⟩ <;> repeat' (first|exact trivial|exact rfl|exact wkr rfl|exact wko rfl|exact Nat.zero_le _|exact qad lW|exact qad lJ|exact qad lP|exact kle rfl|exact bdq|exact mxI rfl|exact mxS rfl|apply And.intro)) ⟨Nat.zero_le _,.inl ⟨rfl,rfl,rfl⟩⟩ ?_
 rintro ⟨i,v,ux⟩ ⟨hi,⟨i0,rfl,rfl⟩ | ⟨i0,rfl,rfl⟩⟩ N hN
 ·obtain rfl:N = 0 :=hN
  conv => whnf
  have hi2:i < J.length :=by omega
  have hiP:i < P.length :=by rw [h.1];exact hi2
  have hpr :=(h.2 i hiP).1
  have hpw:(gi P i).toNat < W.length :=by omega
  have iw:inR (gi P i) W.length = true :=by
   rw [show gi P i = Int.ofNat (gi P i).toNat from (Int.toNat_of_nonneg hpr.1).symm]
   exact qaj hpw
  have hPJ :=h.1
  have hi1:IntKind.i64.wrap (Int.ofNat i + 1) = Int.ofNat (i + 1) :=qa5 (m :=i + 1) (by omega)
  refine qaa (qav hi2) ?_
  conv => whnf
  refine qaz hE hS (A :=Nat) [0,1,2,7,8] (fun k => [(9,nv (hrN J P i k)),(10,nv k)]) (fun _ => []) (fun _ => []) (fun k => k ≤ J.length) (fun k => J.length - k) 0 (kle rfl) rfl (by refine ⟨rfl,rfl,rfl,rfl,rfl,rfl,0,rfl,?_,?_⟩ <;> repeat' (first|exact trivial|exact rfl|exact wkr rfl|exact wko rfl|exact Nat.zero_le _|exact qad lW|exact qad lJ|exact qad lP|exact kle rfl|exact bdq|exact mxI rfl|exact mxS rfl|apply And.intro)) (Nat.zero_le _) ?_
  intro k hk Q hQ
  obtain rfl:Q = 0 :=hQ
  conv => whnf
  by_cases hk2:k < J.length
  ·have hkP:k < P.length :=by omega
   have hk1:IntKind.i64.wrap (Int.ofNat k + 1) = Int.ofNat (k + 1) :=qa5 (m :=k + 1) (by omega)
   have gk2 :=qbu J k hk2
   have gi2 :=qbu J i hi2
   have gk0 :=qbe J k hk2
   have pk :=qbb (l :=P) (i :=k) hkP
   have pi :=qbb (l :=P) (i :=i) hiP
   have hle :=qfw hJ P i k hk
   have hle2 :=qfw hJ P i (k + 1) hk2
   have hkj :=(hJ.2 k hk2).1
   have hd:hrN J P i (k + 1) = hrN J P i k + if gi P k = gi P i ∧ bfrJ J i k then (gL J k).1.toNat else 0 :=rfl
   by_cases q1:(gL J k).2.2 < (gL J i).2.2
   ·have c1:decide ((gL J k).2.2 < (gL J i).2.2) = true :=decide_eq_true q1
    by_cases q0:gi P k = gi P i
    ·have c0:(gi P k == gi P i) = true :=beq_iff_eq.2 q0
     rw [if_pos ⟨q0,.inl q1⟩] at hd
     try have z44:=qav hk2
     try have z45:=qaj hk2
     try have z46:=qaj hi2
     try have z47:=qaj hkP
     try have z48:=qaj hiP
     repeat ((first|refine qaf (nthP gk2) ?_|refine qaf (nthP gi2) ?_|refine qaf (nthP pk) ?_|refine qaf (nthP pi) ?_|refine qaf (nthP gk0) ?_|refine qai ‹_› ?_|refine qah ‹_› ?_|refine pkT ‹_› ?_|refine qaa ‹_› ?_|refine qao ‹_› ?_|refine qap ‹_› ?_|refine pkF ‹_› ?_|refine qac ‹_› ?_|refine qao (gft ‹_›) ?_|refine qap (gft ‹_›) ?_|refine pkF (gft ‹_›) ?_|refine qac (gft ‹_›) ?_|refine qai (qaq ‹_›) ?_|refine qah (qaq ‹_›) ?_|refine pkT (qaq ‹_›) ?_|refine qaa (qaq ‹_›) ?_|refine qae hS (by kernel_rfl) ?_);conv => whnf)
     have hw:IntKind.i64.wrap (Int.ofNat (hrN J P i k) + (gL J k).1) = Int.ofNat (hrN J P i (k + 1)) :=by
      rw [hd,show Int.ofNat (hrN J P i k) + (gL J k).1 = Int.ofNat (hrN J P i k + (gL J k).1.toNat) by show (hrN J P i k:Int) + _ = ((hrN J P i k + (gL J k).1.toNat:Nat):Int);omega]
      exact qa5 (by omega)
     exact ⟨k + 1,hk2,by omega,Nat.le_refl _,(by refine ⟨rfl,rfl,rfl,rfl,rfl,rfl,0,rfl,?_,?_⟩ <;> repeat' (first|exact trivial|exact rfl|exact wkr rfl|exact wko rfl|exact Nat.zero_le _|exact ⟨_,rfl,WkV.int hw⟩|exact ⟨_,rfl,WkV.int hk1⟩|exact qad lW|exact qad lJ|exact qad lP|exact kle rfl|exact bdq|exact mxI rfl|exact mxS rfl|apply And.intro))⟩
    ·have c0:(gi P k == gi P i) = false :=beq_eq_false_iff_ne.2 q0
     rw [if_neg fun z => q0 z.1] at hd
     try have z49:=qav hk2
     try have z50:=qaj hk2
     try have z51:=qaj hi2
     try have z52:=qaj hkP
     try have z53:=qaj hiP
     repeat ((first|refine qaf (nthP gk2) ?_|refine qaf (nthP gi2) ?_|refine qaf (nthP pk) ?_|refine qaf (nthP pi) ?_|refine qaf (nthP gk0) ?_|refine qai ‹_› ?_|refine qah ‹_› ?_|refine pkT ‹_› ?_|refine qaa ‹_› ?_|refine qao ‹_› ?_|refine qap ‹_› ?_|refine pkF ‹_› ?_|refine qac ‹_› ?_|refine qao (gft ‹_›) ?_|refine qap (gft ‹_›) ?_|refine pkF (gft ‹_›) ?_|refine qac (gft ‹_›) ?_|refine qao (qa0 ‹_›) ?_|refine qap (qa0 ‹_›) ?_|refine pkF (qa0 ‹_›) ?_|refine qac (qa0 ‹_›) ?_|refine qae hS (by kernel_rfl) ?_);conv => whnf)
     have hw:Int.ofNat (hrN J P i k) = Int.ofNat (hrN J P i (k + 1)) :=by rw [hd];rfl
     exact ⟨k + 1,hk2,by omega,Nat.le_refl _,(by refine ⟨rfl,rfl,rfl,rfl,rfl,rfl,0,rfl,?_,?_⟩ <;> repeat' (first|exact trivial|exact rfl|exact wkr rfl|exact wko rfl|exact Nat.zero_le _|exact ⟨_,rfl,WkV.int hw⟩|exact ⟨_,rfl,WkV.int hk1⟩|exact qad lW|exact qad lJ|exact qad lP|exact kle rfl|exact bdq|exact mxI rfl|exact mxS rfl|apply And.intro))⟩
   ·have c1:decide ((gL J k).2.2 < (gL J i).2.2) = false :=decide_eq_false q1
    by_cases q2:(gL J k).2.2 = (gL J i).2.2
    ·have c2:((gL J k).2.2 == (gL J i).2.2) = true :=beq_iff_eq.2 q2
     by_cases q3:k ≤ i
     ·have c3:decide (Int.ofNat k ≤ Int.ofNat i) = true :=decide_eq_true (Int.ofNat_le.2 q3)
      by_cases q0:gi P k = gi P i
      ·have c0:(gi P k == gi P i) = true :=beq_iff_eq.2 q0
       rw [if_pos ⟨q0,.inr ⟨q2,q3⟩⟩] at hd
       try have z54:=qav hk2
       try have z55:=qaj hk2
       try have z56:=qaj hi2
       try have z57:=qaj hkP
       try have z58:=qaj hiP
       repeat ((first|refine qaf (nthP gk2) ?_|refine qaf (nthP gi2) ?_|refine qaf (nthP pk) ?_|refine qaf (nthP pi) ?_|refine qaf (nthP gk0) ?_|refine qai ‹_› ?_|refine qah ‹_› ?_|refine pkT ‹_› ?_|refine qaa ‹_› ?_|refine qao ‹_› ?_|refine qap ‹_› ?_|refine pkF ‹_› ?_|refine qac ‹_› ?_|refine qai (gff ‹_›) ?_|refine qah (gff ‹_›) ?_|refine pkT (gff ‹_›) ?_|refine qaa (gff ‹_›) ?_|refine qai (qaq ‹_›) ?_|refine qah (qaq ‹_›) ?_|refine pkT (qaq ‹_›) ?_|refine qaa (qaq ‹_›) ?_|refine qae hS (by kernel_rfl) ?_);conv => whnf)
       have hw:IntKind.i64.wrap (Int.ofNat (hrN J P i k) + (gL J k).1) = Int.ofNat (hrN J P i (k + 1)) :=by
        rw [hd,show Int.ofNat (hrN J P i k) + (gL J k).1 = Int.ofNat (hrN J P i k + (gL J k).1.toNat) by show (hrN J P i k:Int) + _ = ((hrN J P i k + (gL J k).1.toNat:Nat):Int);omega]
        exact qa5 (by omega)
       exact ⟨k + 1,hk2,by omega,Nat.le_refl _,(by refine ⟨rfl,rfl,rfl,rfl,rfl,rfl,0,rfl,?_,?_⟩ <;> repeat' (first|exact trivial|exact rfl|exact wkr rfl|exact wko rfl|exact Nat.zero_le _|exact ⟨_,rfl,WkV.int hw⟩|exact ⟨_,rfl,WkV.int hk1⟩|exact qad lW|exact qad lJ|exact qad lP|exact kle rfl|exact bdq|exact mxI rfl|exact mxS rfl|apply And.intro))⟩
      ·have c0:(gi P k == gi P i) = false :=beq_eq_false_iff_ne.2 q0
       rw [if_neg fun z => q0 z.1] at hd
       try have z59:=qav hk2
       try have z60:=qaj hk2
       try have z61:=qaj hi2
       try have z62:=qaj hkP
       try have z63:=qaj hiP
       repeat ((first|refine qaf (nthP gk2) ?_|refine qaf (nthP gi2) ?_|refine qaf (nthP pk) ?_|refine qaf (nthP pi) ?_|refine qaf (nthP gk0) ?_|refine qai ‹_› ?_|refine qah ‹_› ?_|refine pkT ‹_› ?_|refine qaa ‹_› ?_|refine qao ‹_› ?_|refine qap ‹_› ?_|refine pkF ‹_› ?_|refine qac ‹_› ?_|refine qai (gff ‹_›) ?_|refine qah (gff ‹_›) ?_|refine pkT (gff ‹_›) ?_|refine qaa (gff ‹_›) ?_|refine qai (qaq ‹_›) ?_|refine qah (qaq ‹_›) ?_|refine pkT (qaq ‹_›) ?_|refine qaa (qaq ‹_›) ?_|refine qao (qa0 ‹_›) ?_|refine qap (qa0 ‹_›) ?_|refine pkF (qa0 ‹_›) ?_|refine qac (qa0 ‹_›) ?_|refine qae hS (by kernel_rfl) ?_);conv => whnf)
       have hw:Int.ofNat (hrN J P i k) = Int.ofNat (hrN J P i (k + 1)) :=by rw [hd];rfl
       exact ⟨k + 1,hk2,by omega,Nat.le_refl _,(by refine ⟨rfl,rfl,rfl,rfl,rfl,rfl,0,rfl,?_,?_⟩ <;> repeat' (first|exact trivial|exact rfl|exact wkr rfl|exact wko rfl|exact Nat.zero_le _|exact ⟨_,rfl,WkV.int hw⟩|exact ⟨_,rfl,WkV.int hk1⟩|exact qad lW|exact qad lJ|exact qad lP|exact kle rfl|exact bdq|exact mxI rfl|exact mxS rfl|apply And.intro))⟩
     ·have c3:decide (Int.ofNat k ≤ Int.ofNat i) = false :=decide_eq_false fun z => q3 (Int.ofNat_le.1 z)
      by_cases q0:gi P k = gi P i
      ·have c0:(gi P k == gi P i) = true :=beq_iff_eq.2 q0
       rw [if_neg fun z => by have :=z.2;unfold bfrJ at this;omega] at hd
       try have z64:=qav hk2
       try have z65:=qaj hk2
       try have z66:=qaj hi2
       try have z67:=qaj hkP
       try have z68:=qaj hiP
       repeat ((first|refine qaf (nthP gk2) ?_|refine qaf (nthP gi2) ?_|refine qaf (nthP pk) ?_|refine qaf (nthP pi) ?_|refine qaf (nthP gk0) ?_|refine qai ‹_› ?_|refine qah ‹_› ?_|refine pkT ‹_› ?_|refine qaa ‹_› ?_|refine qao ‹_› ?_|refine qap ‹_› ?_|refine pkF ‹_› ?_|refine qac ‹_› ?_|refine qai (gff ‹_›) ?_|refine qah (gff ‹_›) ?_|refine pkT (gff ‹_›) ?_|refine qaa (gff ‹_›) ?_|refine qai (qaq ‹_›) ?_|refine qah (qaq ‹_›) ?_|refine pkT (qaq ‹_›) ?_|refine qaa (qaq ‹_›) ?_|refine qae hS (by kernel_rfl) ?_);conv => whnf)
       have hw:Int.ofNat (hrN J P i k) = Int.ofNat (hrN J P i (k + 1)) :=by rw [hd];rfl
       exact ⟨k + 1,hk2,by omega,Nat.le_refl _,(by refine ⟨rfl,rfl,rfl,rfl,rfl,rfl,0,rfl,?_,?_⟩ <;> repeat' (first|exact trivial|exact rfl|exact wkr rfl|exact wko rfl|exact Nat.zero_le _|exact ⟨_,rfl,WkV.int hw⟩|exact ⟨_,rfl,WkV.int hk1⟩|exact qad lW|exact qad lJ|exact qad lP|exact kle rfl|exact bdq|exact mxI rfl|exact mxS rfl|apply And.intro))⟩
      ·have c0:(gi P k == gi P i) = false :=beq_eq_false_iff_ne.2 q0
       rw [if_neg fun z => q0 z.1] at hd
       try have z69:=qav hk2
       try have z70:=qaj hk2
       try have z71:=qaj hi2
       try have z72:=qaj hkP
       try have z73:=qaj hiP
       repeat ((first|refine qaf (nthP gk2) ?_|refine qaf (nthP gi2) ?_|refine qaf (nthP pk) ?_|refine qaf (nthP pi) ?_|refine qaf (nthP gk0) ?_|refine qai ‹_› ?_|refine qah ‹_› ?_|refine pkT ‹_› ?_|refine qaa ‹_› ?_|refine qao ‹_› ?_|refine qap ‹_› ?_|refine pkF ‹_› ?_|refine qac ‹_› ?_|refine qai (gff ‹_›) ?_|refine qah (gff ‹_›) ?_|refine pkT (gff ‹_›) ?_|refine qaa (gff ‹_›) ?_|refine qai (qaq ‹_›) ?_|refine qah (qaq ‹_›) ?_|refine pkT (qaq ‹_›) ?_|refine qaa (qaq ‹_›) ?_|refine qao (qa0 ‹_›) ?_|refine qap (qa0 ‹_›) ?_|refine pkF (qa0 ‹_›) ?_|refine qac (qa0 ‹_›) ?_|refine qae hS (by kernel_rfl) ?_);conv => whnf)
       have hw:Int.ofNat (hrN J P i k) = Int.ofNat (hrN J P i (k + 1)) :=by rw [hd];rfl
       exact ⟨k + 1,hk2,by omega,Nat.le_refl _,(by refine ⟨rfl,rfl,rfl,rfl,rfl,rfl,0,rfl,?_,?_⟩ <;> repeat' (first|exact trivial|exact rfl|exact wkr rfl|exact wko rfl|exact Nat.zero_le _|exact ⟨_,rfl,WkV.int hw⟩|exact ⟨_,rfl,WkV.int hk1⟩|exact qad lW|exact qad lJ|exact qad lP|exact kle rfl|exact bdq|exact mxI rfl|exact mxS rfl|apply And.intro))⟩
    ·have c2:((gL J k).2.2 == (gL J i).2.2) = false :=beq_eq_false_iff_ne.2 q2
     by_cases q0:gi P k = gi P i
     ·have c0:(gi P k == gi P i) = true :=beq_iff_eq.2 q0
      rw [if_neg fun z => by have :=z.2;unfold bfrJ at this;omega] at hd
      try have z74:=qav hk2
      try have z75:=qaj hk2
      try have z76:=qaj hi2
      try have z77:=qaj hkP
      try have z78:=qaj hiP
      repeat ((first|refine qaf (nthP gk2) ?_|refine qaf (nthP gi2) ?_|refine qaf (nthP pk) ?_|refine qaf (nthP pi) ?_|refine qaf (nthP gk0) ?_|refine qai ‹_› ?_|refine qah ‹_› ?_|refine pkT ‹_› ?_|refine qaa ‹_› ?_|refine qao ‹_› ?_|refine qap ‹_› ?_|refine pkF ‹_› ?_|refine qac ‹_› ?_|refine qai (gff ‹_›) ?_|refine qah (gff ‹_›) ?_|refine pkT (gff ‹_›) ?_|refine qaa (gff ‹_›) ?_|refine qao (qa0 ‹_›) ?_|refine qap (qa0 ‹_›) ?_|refine pkF (qa0 ‹_›) ?_|refine qac (qa0 ‹_›) ?_|refine qai (qaq ‹_›) ?_|refine qah (qaq ‹_›) ?_|refine pkT (qaq ‹_›) ?_|refine qaa (qaq ‹_›) ?_|refine qae hS (by kernel_rfl) ?_);conv => whnf)
      have hw:Int.ofNat (hrN J P i k) = Int.ofNat (hrN J P i (k + 1)) :=by rw [hd];rfl
      exact ⟨k + 1,hk2,by omega,Nat.le_refl _,(by refine ⟨rfl,rfl,rfl,rfl,rfl,rfl,0,rfl,?_,?_⟩ <;> repeat' (first|exact trivial|exact rfl|exact wkr rfl|exact wko rfl|exact Nat.zero_le _|exact ⟨_,rfl,WkV.int hw⟩|exact ⟨_,rfl,WkV.int hk1⟩|exact qad lW|exact qad lJ|exact qad lP|exact kle rfl|exact bdq|exact mxI rfl|exact mxS rfl|apply And.intro))⟩
     ·have c0:(gi P k == gi P i) = false :=beq_eq_false_iff_ne.2 q0
      rw [if_neg fun z => q0 z.1] at hd
      try have z79:=qav hk2
      try have z80:=qaj hk2
      try have z81:=qaj hi2
      try have z82:=qaj hkP
      try have z83:=qaj hiP
      repeat ((first|refine qaf (nthP gk2) ?_|refine qaf (nthP gi2) ?_|refine qaf (nthP pk) ?_|refine qaf (nthP pi) ?_|refine qaf (nthP gk0) ?_|refine qai ‹_› ?_|refine qah ‹_› ?_|refine pkT ‹_› ?_|refine qaa ‹_› ?_|refine qao ‹_› ?_|refine qap ‹_› ?_|refine pkF ‹_› ?_|refine qac ‹_› ?_|refine qai (gff ‹_›) ?_|refine qah (gff ‹_›) ?_|refine pkT (gff ‹_›) ?_|refine qaa (gff ‹_›) ?_|refine qao (qa0 ‹_›) ?_|refine qap (qa0 ‹_›) ?_|refine pkF (qa0 ‹_›) ?_|refine qac (qa0 ‹_›) ?_|refine qae hS (by kernel_rfl) ?_);conv => whnf)
      have hw:Int.ofNat (hrN J P i k) = Int.ofNat (hrN J P i (k + 1)) :=by rw [hd];rfl
      exact ⟨k + 1,hk2,by omega,Nat.le_refl _,(by refine ⟨rfl,rfl,rfl,rfl,rfl,rfl,0,rfl,?_,?_⟩ <;> repeat' (first|exact trivial|exact rfl|exact wkr rfl|exact wko rfl|exact Nat.zero_le _|exact ⟨_,rfl,WkV.int hw⟩|exact ⟨_,rfl,WkV.int hk1⟩|exact qad lW|exact qad lJ|exact qad lP|exact kle rfl|exact bdq|exact mxI rfl|exact mxS rfl|apply And.intro))⟩
  ·refine qac (qbh hk2) ?_
   conv => whnf
   refine .inl ?_
   conv => whnf
   have ek:k = J.length :=by omega
   have hwk :=(hW.2 (gi P i).toNat hpw).2.1
   have hle :=qfw hJ P i J.length (Nat.le_refl _)
   have gp :=qbb (l :=P) (i :=i) hiP
   have gw :=qbq W (gi P i).toNat hpw
   have hdn:(gL W (gi P i).toNat).2.1 = Int.ofNat (gL W (gi P i).toNat).2.1.toNat :=(Int.toNat_of_nonneg (by omega)).symm
   have c9:(!((gL W (gi P i).toNat).2.1 == 0)) = true :=nt_f (beq_eq_false_iff_ne.2 (by omega))
   have hq:IntKind.i64.wrap ((IntKind.i64.wrap (IntKind.i64.wrap (Int.ofNat (hrN J P i k) + (gL W (gi P i).toNat).2.1) - 1)).tdiv (gL W (gi P i).toNat).2.1) = Int.ofNat (dyN W J P i) :=by
    rw [ek]
    have h1:1 ≤ (gL W (gi P i).toNat).2.1.toNat :=by omega
    have h2:(gL W (gi P i).toNat).2.1.toNat ≤ 12 :=by omega
    unfold dyN
    rw [hdn]
    generalize (gL W (gi P i).toNat).2.1.toNat = d at h1 h2
    rw [show Int.ofNat (hrN J P i J.length) + Int.ofNat d = Int.ofNat (hrN J P i J.length + d) from rfl,qa5 (by omega),show Int.ofNat (hrN J P i J.length + d) - 1 = Int.ofNat (hrN J P i J.length + d - 1) by show ((hrN J P i J.length + d:Nat):Int) - 1 = ((hrN J P i J.length + d - 1:Nat):Int);omega,qa5 (by omega)]
    show IntKind.i64.wrap ((Int.ofNat (hrN J P i J.length + d - 1)).tdiv (Int.ofNat d)) = Int.ofNat ((hrN J P i J.length + Int.toNat (Int.ofNat d) - 1) / Int.toNat (Int.ofNat d))
    exact quoN (by omega)
   have e1:AV.lst [iv (IntKind.i64.wrap ((IntKind.i64.wrap (IntKind.i64.wrap (Int.ofNat (hrN J P i k) + (gL W (gi P i).toNat).2.1) - 1)).tdiv (gL W (gi P i).toNat).2.1))] (0 + 1) (.ch 0) = .lst (ivs (dnT W J P (i + 1))) (dnT W J P (i + 1)).length (.ch 0) :=by
    rw [hq,qkg,i0];rfl
   have e2:AObj.chain (0 + 1) 1 3 = .chain (dnT W J P (i + 1)).length 1 3 :=by rw [qcw,i0]
   try have z84:=qaj hiP
   repeat ((first|refine qaf (nthP gp) ?_|refine qaf (nthP gw) ?_|refine qai ‹_› ?_|refine qah ‹_› ?_|refine pkT ‹_› ?_|refine qaa ‹_› ?_|refine qae hS (by kernel_rfl) ?_);conv => whnf)
   exact ⟨(i + 1,.lst (ivs (dnT W J P (i + 1))) (dnT W J P (i + 1)).length (.ch 0),[.chain (dnT W J P (i + 1)).length 1 3]),⟨hi2,.inr ⟨by omega,rfl,rfl⟩⟩,by show J.length - (i + 1) < J.length - i;omega,Nat.zero_le _,(by refine ⟨rfl,rfl,rfl,rfl,rfl,rfl,1,rfl,?_,?_⟩ <;> repeat' (first|exact trivial|exact rfl|exact wkr rfl|exact wko rfl|exact Nat.zero_le _|exact ⟨_,rfl,WkV.int hi1⟩|exact ⟨_,rfl,WkV.eq e1⟩|exact e2|exact qad lW|exact qad lJ|exact qad lP|exact kle rfl|exact bdq|exact mxI rfl|exact mxS rfl|apply And.intro))⟩
 ·obtain rfl:N = 1 :=hN
  conv => whnf
  by_cases hi2:i < J.length
  ·have hiP:i < P.length :=by rw [h.1];exact hi2
   have hpr :=(h.2 i hiP).1
   have hpw:(gi P i).toNat < W.length :=by omega
   have iw:inR (gi P i) W.length = true :=by
    rw [show gi P i = Int.ofNat (gi P i).toNat from (Int.toNat_of_nonneg hpr.1).symm]
    exact qaj hpw
   have hPJ :=h.1
   have hi1:IntKind.i64.wrap (Int.ofNat i + 1) = Int.ofNat (i + 1) :=qa5 (m :=i + 1) (by omega)
   refine qaa (qav hi2) ?_
   conv => whnf
   refine qaz hE hS (A :=Nat) [0,1,2,7,8] (fun k => [(9,nv (hrN J P i k)),(10,nv k)]) (fun _ => []) (fun _ => []) (fun k => k ≤ J.length) (fun k => J.length - k) 0 (kle rfl) rfl (by refine ⟨rfl,rfl,rfl,rfl,rfl,rfl,1,rfl,?_,?_⟩ <;> repeat' (first|exact trivial|exact rfl|exact wkr rfl|exact wko rfl|exact Nat.zero_le _|exact qad lW|exact qad lJ|exact qad lP|exact kle rfl|exact bdq|exact mxI rfl|exact mxS rfl|apply And.intro)) (Nat.zero_le _) ?_
   intro k hk Q hQ
   obtain rfl:Q = 1 :=hQ
   conv => whnf
   by_cases hk2:k < J.length
   ·have hkP:k < P.length :=by omega
    have hk1:IntKind.i64.wrap (Int.ofNat k + 1) = Int.ofNat (k + 1) :=qa5 (m :=k + 1) (by omega)
    have gk2 :=qbu J k hk2
    have gi2 :=qbu J i hi2
    have gk0 :=qbe J k hk2
    have pk :=qbb (l :=P) (i :=k) hkP
    have pi :=qbb (l :=P) (i :=i) hiP
    have hle :=qfw hJ P i k hk
    have hle2 :=qfw hJ P i (k + 1) hk2
    have hkj :=(hJ.2 k hk2).1
    have hd:hrN J P i (k + 1) = hrN J P i k + if gi P k = gi P i ∧ bfrJ J i k then (gL J k).1.toNat else 0 :=rfl
    by_cases q1:(gL J k).2.2 < (gL J i).2.2
    ·have c1:decide ((gL J k).2.2 < (gL J i).2.2) = true :=decide_eq_true q1
     by_cases q0:gi P k = gi P i
     ·have c0:(gi P k == gi P i) = true :=beq_iff_eq.2 q0
      rw [if_pos ⟨q0,.inl q1⟩] at hd
      try have z85:=qav hk2
      try have z86:=qaj hk2
      try have z87:=qaj hi2
      try have z88:=qaj hkP
      try have z89:=qaj hiP
      repeat ((first|refine qaf (nthP gk2) ?_|refine qaf (nthP gi2) ?_|refine qaf (nthP pk) ?_|refine qaf (nthP pi) ?_|refine qaf (nthP gk0) ?_|refine qai ‹_› ?_|refine qah ‹_› ?_|refine pkT ‹_› ?_|refine qaa ‹_› ?_|refine qao ‹_› ?_|refine qap ‹_› ?_|refine pkF ‹_› ?_|refine qac ‹_› ?_|refine qao (gft ‹_›) ?_|refine qap (gft ‹_›) ?_|refine pkF (gft ‹_›) ?_|refine qac (gft ‹_›) ?_|refine qai (qaq ‹_›) ?_|refine qah (qaq ‹_›) ?_|refine pkT (qaq ‹_›) ?_|refine qaa (qaq ‹_›) ?_|refine qae hS (by kernel_rfl) ?_);conv => whnf)
      have hw:IntKind.i64.wrap (Int.ofNat (hrN J P i k) + (gL J k).1) = Int.ofNat (hrN J P i (k + 1)) :=by
       rw [hd,show Int.ofNat (hrN J P i k) + (gL J k).1 = Int.ofNat (hrN J P i k + (gL J k).1.toNat) by show (hrN J P i k:Int) + _ = ((hrN J P i k + (gL J k).1.toNat:Nat):Int);omega]
       exact qa5 (by omega)
      exact ⟨k + 1,hk2,by omega,Nat.le_refl _,(by refine ⟨rfl,rfl,rfl,rfl,rfl,rfl,1,rfl,?_,?_⟩ <;> repeat' (first|exact trivial|exact rfl|exact wkr rfl|exact wko rfl|exact Nat.zero_le _|exact ⟨_,rfl,WkV.int hw⟩|exact ⟨_,rfl,WkV.int hk1⟩|exact qad lW|exact qad lJ|exact qad lP|exact kle rfl|exact bdq|exact mxI rfl|exact mxS rfl|apply And.intro))⟩
     ·have c0:(gi P k == gi P i) = false :=beq_eq_false_iff_ne.2 q0
      rw [if_neg fun z => q0 z.1] at hd
      try have z90:=qav hk2
      try have z91:=qaj hk2
      try have z92:=qaj hi2
      try have z93:=qaj hkP
      try have z94:=qaj hiP
      repeat ((first|refine qaf (nthP gk2) ?_|refine qaf (nthP gi2) ?_|refine qaf (nthP pk) ?_|refine qaf (nthP pi) ?_|refine qaf (nthP gk0) ?_|refine qai ‹_› ?_|refine qah ‹_› ?_|refine pkT ‹_› ?_|refine qaa ‹_› ?_|refine qao ‹_› ?_|refine qap ‹_› ?_|refine pkF ‹_› ?_|refine qac ‹_› ?_|refine qao (gft ‹_›) ?_|refine qap (gft ‹_›) ?_|refine pkF (gft ‹_›) ?_|refine qac (gft ‹_›) ?_|refine qao (qa0 ‹_›) ?_|refine qap (qa0 ‹_›) ?_|refine pkF (qa0 ‹_›) ?_|refine qac (qa0 ‹_›) ?_|refine qae hS (by kernel_rfl) ?_);conv => whnf)
      have hw:Int.ofNat (hrN J P i k) = Int.ofNat (hrN J P i (k + 1)) :=by rw [hd];rfl
      exact ⟨k + 1,hk2,by omega,Nat.le_refl _,(by refine ⟨rfl,rfl,rfl,rfl,rfl,rfl,1,rfl,?_,?_⟩ <;> repeat' (first|exact trivial|exact rfl|exact wkr rfl|exact wko rfl|exact Nat.zero_le _|exact ⟨_,rfl,WkV.int hw⟩|exact ⟨_,rfl,WkV.int hk1⟩|exact qad lW|exact qad lJ|exact qad lP|exact kle rfl|exact bdq|exact mxI rfl|exact mxS rfl|apply And.intro))⟩
    ·have c1:decide ((gL J k).2.2 < (gL J i).2.2) = false :=decide_eq_false q1
     by_cases q2:(gL J k).2.2 = (gL J i).2.2
     ·have c2:((gL J k).2.2 == (gL J i).2.2) = true :=beq_iff_eq.2 q2
      by_cases q3:k ≤ i
      ·have c3:decide (Int.ofNat k ≤ Int.ofNat i) = true :=decide_eq_true (Int.ofNat_le.2 q3)
       by_cases q0:gi P k = gi P i
       ·have c0:(gi P k == gi P i) = true :=beq_iff_eq.2 q0
        rw [if_pos ⟨q0,.inr ⟨q2,q3⟩⟩] at hd
        try have z95:=qav hk2
        try have z96:=qaj hk2
        try have z97:=qaj hi2
        try have z98:=qaj hkP
        try have z99:=qaj hiP
        repeat ((first|refine qaf (nthP gk2) ?_|refine qaf (nthP gi2) ?_|refine qaf (nthP pk) ?_|refine qaf (nthP pi) ?_|refine qaf (nthP gk0) ?_|refine qai ‹_› ?_|refine qah ‹_› ?_|refine pkT ‹_› ?_|refine qaa ‹_› ?_|refine qao ‹_› ?_|refine qap ‹_› ?_|refine pkF ‹_› ?_|refine qac ‹_› ?_|refine qai (gff ‹_›) ?_|refine qah (gff ‹_›) ?_|refine pkT (gff ‹_›) ?_|refine qaa (gff ‹_›) ?_|refine qai (qaq ‹_›) ?_|refine qah (qaq ‹_›) ?_|refine pkT (qaq ‹_›) ?_|refine qaa (qaq ‹_›) ?_|refine qae hS (by kernel_rfl) ?_);conv => whnf)
        have hw:IntKind.i64.wrap (Int.ofNat (hrN J P i k) + (gL J k).1) = Int.ofNat (hrN J P i (k + 1)) :=by
         rw [hd,show Int.ofNat (hrN J P i k) + (gL J k).1 = Int.ofNat (hrN J P i k + (gL J k).1.toNat) by show (hrN J P i k:Int) + _ = ((hrN J P i k + (gL J k).1.toNat:Nat):Int);omega]
         exact qa5 (by omega)
        exact ⟨k + 1,hk2,by omega,Nat.le_refl _,(by refine ⟨rfl,rfl,rfl,rfl,rfl,rfl,1,rfl,?_,?_⟩ <;> repeat' (first|exact trivial|exact rfl|exact wkr rfl|exact wko rfl|exact Nat.zero_le _|exact ⟨_,rfl,WkV.int hw⟩|exact ⟨_,rfl,WkV.int hk1⟩|exact qad lW|exact qad lJ|exact qad lP|exact kle rfl|exact bdq|exact mxI rfl|exact mxS rfl|apply And.intro))⟩
       ·have c0:(gi P k == gi P i) = false :=beq_eq_false_iff_ne.2 q0
        rw [if_neg fun z => q0 z.1] at hd
        try have z100:=qav hk2
        try have z101:=qaj hk2
        try have z102:=qaj hi2
        try have z103:=qaj hkP
        try have z104:=qaj hiP
        repeat ((first|refine qaf (nthP gk2) ?_|refine qaf (nthP gi2) ?_|refine qaf (nthP pk) ?_|refine qaf (nthP pi) ?_|refine qaf (nthP gk0) ?_|refine qai ‹_› ?_|refine qah ‹_› ?_|refine pkT ‹_› ?_|refine qaa ‹_› ?_|refine qao ‹_› ?_|refine qap ‹_› ?_|refine pkF ‹_› ?_|refine qac ‹_› ?_|refine qai (gff ‹_›) ?_|refine qah (gff ‹_›) ?_|refine pkT (gff ‹_›) ?_|refine qaa (gff ‹_›) ?_|refine qai (qaq ‹_›) ?_|refine qah (qaq ‹_›) ?_|refine pkT (qaq ‹_›) ?_|refine qaa (qaq ‹_›) ?_|refine qao (qa0 ‹_›) ?_|refine qap (qa0 ‹_›) ?_|refine pkF (qa0 ‹_›) ?_|refine qac (qa0 ‹_›) ?_|refine qae hS (by kernel_rfl) ?_);conv => whnf)
        have hw:Int.ofNat (hrN J P i k) = Int.ofNat (hrN J P i (k + 1)) :=by rw [hd];rfl
        exact ⟨k + 1,hk2,by omega,Nat.le_refl _,(by refine ⟨rfl,rfl,rfl,rfl,rfl,rfl,1,rfl,?_,?_⟩ <;> repeat' (first|exact trivial|exact rfl|exact wkr rfl|exact wko rfl|exact Nat.zero_le _|exact ⟨_,rfl,WkV.int hw⟩|exact ⟨_,rfl,WkV.int hk1⟩|exact qad lW|exact qad lJ|exact qad lP|exact kle rfl|exact bdq|exact mxI rfl|exact mxS rfl|apply And.intro))⟩
      ·have c3:decide (Int.ofNat k ≤ Int.ofNat i) = false :=decide_eq_false fun z => q3 (Int.ofNat_le.1 z)
       by_cases q0:gi P k = gi P i
       ·have c0:(gi P k == gi P i) = true :=beq_iff_eq.2 q0
        rw [if_neg fun z => by have :=z.2;unfold bfrJ at this;omega] at hd
        try have z105:=qav hk2
        try have z106:=qaj hk2
        try have z107:=qaj hi2
        try have z108:=qaj hkP
        try have z109:=qaj hiP
        repeat ((first|refine qaf (nthP gk2) ?_|refine qaf (nthP gi2) ?_|refine qaf (nthP pk) ?_|refine qaf (nthP pi) ?_|refine qaf (nthP gk0) ?_|refine qai ‹_› ?_|refine qah ‹_› ?_|refine pkT ‹_› ?_|refine qaa ‹_› ?_|refine qao ‹_› ?_|refine qap ‹_› ?_|refine pkF ‹_› ?_|refine qac ‹_› ?_|refine qai (gff ‹_›) ?_|refine qah (gff ‹_›) ?_|refine pkT (gff ‹_›) ?_|refine qaa (gff ‹_›) ?_|refine qai (qaq ‹_›) ?_|refine qah (qaq ‹_›) ?_|refine pkT (qaq ‹_›) ?_|refine qaa (qaq ‹_›) ?_|refine qae hS (by kernel_rfl) ?_);conv => whnf)
        have hw:Int.ofNat (hrN J P i k) = Int.ofNat (hrN J P i (k + 1)) :=by rw [hd];rfl
        exact ⟨k + 1,hk2,by omega,Nat.le_refl _,(by refine ⟨rfl,rfl,rfl,rfl,rfl,rfl,1,rfl,?_,?_⟩ <;> repeat' (first|exact trivial|exact rfl|exact wkr rfl|exact wko rfl|exact Nat.zero_le _|exact ⟨_,rfl,WkV.int hw⟩|exact ⟨_,rfl,WkV.int hk1⟩|exact qad lW|exact qad lJ|exact qad lP|exact kle rfl|exact bdq|exact mxI rfl|exact mxS rfl|apply And.intro))⟩
       ·have c0:(gi P k == gi P i) = false :=beq_eq_false_iff_ne.2 q0
        rw [if_neg fun z => q0 z.1] at hd
        try have z110:=qav hk2
        try have z111:=qaj hk2
        try have z112:=qaj hi2
        try have z113:=qaj hkP
        try have z114:=qaj hiP
        repeat ((first|refine qaf (nthP gk2) ?_|refine qaf (nthP gi2) ?_|refine qaf (nthP pk) ?_|refine qaf (nthP pi) ?_|refine qaf (nthP gk0) ?_|refine qai ‹_› ?_|refine qah ‹_› ?_|refine pkT ‹_› ?_|refine qaa ‹_› ?_|refine qao ‹_› ?_|refine qap ‹_› ?_|refine pkF ‹_› ?_|refine qac ‹_› ?_|refine qai (gff ‹_›) ?_|refine qah (gff ‹_›) ?_|refine pkT (gff ‹_›) ?_|refine qaa (gff ‹_›) ?_|refine qai (qaq ‹_›) ?_|refine qah (qaq ‹_›) ?_|refine pkT (qaq ‹_›) ?_|refine qaa (qaq ‹_›) ?_|refine qao (qa0 ‹_›) ?_|refine qap (qa0 ‹_›) ?_|refine pkF (qa0 ‹_›) ?_|refine qac (qa0 ‹_›) ?_|refine qae hS (by kernel_rfl) ?_);conv => whnf)
        have hw:Int.ofNat (hrN J P i k) = Int.ofNat (hrN J P i (k + 1)) :=by rw [hd];rfl
        exact ⟨k + 1,hk2,by omega,Nat.le_refl _,(by refine ⟨rfl,rfl,rfl,rfl,rfl,rfl,1,rfl,?_,?_⟩ <;> repeat' (first|exact trivial|exact rfl|exact wkr rfl|exact wko rfl|exact Nat.zero_le _|exact ⟨_,rfl,WkV.int hw⟩|exact ⟨_,rfl,WkV.int hk1⟩|exact qad lW|exact qad lJ|exact qad lP|exact kle rfl|exact bdq|exact mxI rfl|exact mxS rfl|apply And.intro))⟩
     ·have c2:((gL J k).2.2 == (gL J i).2.2) = false :=beq_eq_false_iff_ne.2 q2
      by_cases q0:gi P k = gi P i
      ·have c0:(gi P k == gi P i) = true :=beq_iff_eq.2 q0
       rw [if_neg fun z => by have :=z.2;unfold bfrJ at this;omega] at hd
       try have z115:=qav hk2
       try have z116:=qaj hk2
       try have z117:=qaj hi2
       try have z118:=qaj hkP
       try have z119:=qaj hiP
       repeat ((first|refine qaf (nthP gk2) ?_|refine qaf (nthP gi2) ?_|refine qaf (nthP pk) ?_|refine qaf (nthP pi) ?_|refine qaf (nthP gk0) ?_|refine qai ‹_› ?_|refine qah ‹_› ?_|refine pkT ‹_› ?_|refine qaa ‹_› ?_|refine qao ‹_› ?_|refine qap ‹_› ?_|refine pkF ‹_› ?_|refine qac ‹_› ?_|refine qai (gff ‹_›) ?_|refine qah (gff ‹_›) ?_|refine pkT (gff ‹_›) ?_|refine qaa (gff ‹_›) ?_|refine qao (qa0 ‹_›) ?_|refine qap (qa0 ‹_›) ?_|refine pkF (qa0 ‹_›) ?_|refine qac (qa0 ‹_›) ?_|refine qai (qaq ‹_›) ?_|refine qah (qaq ‹_›) ?_|refine pkT (qaq ‹_›) ?_|refine qaa (qaq ‹_›) ?_|refine qae hS (by kernel_rfl) ?_);conv => whnf)
       have hw:Int.ofNat (hrN J P i k) = Int.ofNat (hrN J P i (k + 1)) :=by rw [hd];rfl
       exact ⟨k + 1,hk2,by omega,Nat.le_refl _,(by refine ⟨rfl,rfl,rfl,rfl,rfl,rfl,1,rfl,?_,?_⟩ <;> repeat' (first|exact trivial|exact rfl|exact wkr rfl|exact wko rfl|exact Nat.zero_le _|exact ⟨_,rfl,WkV.int hw⟩|exact ⟨_,rfl,WkV.int hk1⟩|exact qad lW|exact qad lJ|exact qad lP|exact kle rfl|exact bdq|exact mxI rfl|exact mxS rfl|apply And.intro))⟩
      ·have c0:(gi P k == gi P i) = false :=beq_eq_false_iff_ne.2 q0
       rw [if_neg fun z => q0 z.1] at hd
       try have z120:=qav hk2
       try have z121:=qaj hk2
       try have z122:=qaj hi2
       try have z123:=qaj hkP
       try have z124:=qaj hiP
       repeat ((first|refine qaf (nthP gk2) ?_|refine qaf (nthP gi2) ?_|refine qaf (nthP pk) ?_|refine qaf (nthP pi) ?_|refine qaf (nthP gk0) ?_|refine qai ‹_› ?_|refine qah ‹_› ?_|refine pkT ‹_› ?_|refine qaa ‹_› ?_|refine qao ‹_› ?_|refine qap ‹_› ?_|refine pkF ‹_› ?_|refine qac ‹_› ?_|refine qai (gff ‹_›) ?_|refine qah (gff ‹_›) ?_|refine pkT (gff ‹_›) ?_|refine qaa (gff ‹_›) ?_|refine qao (qa0 ‹_›) ?_|refine qap (qa0 ‹_›) ?_|refine pkF (qa0 ‹_›) ?_|refine qac (qa0 ‹_›) ?_|refine qae hS (by kernel_rfl) ?_);conv => whnf)
       have hw:Int.ofNat (hrN J P i k) = Int.ofNat (hrN J P i (k + 1)) :=by rw [hd];rfl
       exact ⟨k + 1,hk2,by omega,Nat.le_refl _,(by refine ⟨rfl,rfl,rfl,rfl,rfl,rfl,1,rfl,?_,?_⟩ <;> repeat' (first|exact trivial|exact rfl|exact wkr rfl|exact wko rfl|exact Nat.zero_le _|exact ⟨_,rfl,WkV.int hw⟩|exact ⟨_,rfl,WkV.int hk1⟩|exact qad lW|exact qad lJ|exact qad lP|exact kle rfl|exact bdq|exact mxI rfl|exact mxS rfl|apply And.intro))⟩
   ·refine qac (qbh hk2) ?_
    conv => whnf
    refine .inl ?_
    conv => whnf
    have ek:k = J.length :=by omega
    have hwk :=(hW.2 (gi P i).toNat hpw).2.1
    have hle :=qfw hJ P i J.length (Nat.le_refl _)
    have gp :=qbb (l :=P) (i :=i) hiP
    have gw :=qbq W (gi P i).toNat hpw
    have hdn:(gL W (gi P i).toNat).2.1 = Int.ofNat (gL W (gi P i).toNat).2.1.toNat :=(Int.toNat_of_nonneg (by omega)).symm
    have c9:(!((gL W (gi P i).toNat).2.1 == 0)) = true :=nt_f (beq_eq_false_iff_ne.2 (by omega))
    have hq:IntKind.i64.wrap ((IntKind.i64.wrap (IntKind.i64.wrap (Int.ofNat (hrN J P i k) + (gL W (gi P i).toNat).2.1) - 1)).tdiv (gL W (gi P i).toNat).2.1) = Int.ofNat (dyN W J P i) :=by
     rw [ek]
     have h1:1 ≤ (gL W (gi P i).toNat).2.1.toNat :=by omega
     have h2:(gL W (gi P i).toNat).2.1.toNat ≤ 12 :=by omega
     unfold dyN
     rw [hdn]
     generalize (gL W (gi P i).toNat).2.1.toNat = d at h1 h2
     rw [show Int.ofNat (hrN J P i J.length) + Int.ofNat d = Int.ofNat (hrN J P i J.length + d) from rfl,qa5 (by omega),show Int.ofNat (hrN J P i J.length + d) - 1 = Int.ofNat (hrN J P i J.length + d - 1) by show ((hrN J P i J.length + d:Nat):Int) - 1 = ((hrN J P i J.length + d - 1:Nat):Int);omega,qa5 (by omega)]
     show IntKind.i64.wrap ((Int.ofNat (hrN J P i J.length + d - 1)).tdiv (Int.ofNat d)) = Int.ofNat ((hrN J P i J.length + Int.toNat (Int.ofNat d) - 1) / Int.toNat (Int.ofNat d))
     exact quoN (by omega)
    have e1:AV.lst (ivs (dnT W J P i) ++ [iv (IntKind.i64.wrap ((IntKind.i64.wrap (IntKind.i64.wrap (Int.ofNat (hrN J P i k) + (gL W (gi P i).toNat).2.1) - 1)).tdiv (gL W (gi P i).toNat).2.1))]) ((dnT W J P i).length + (0 + 1)) (.ch 0) = .lst (ivs (dnT W J P (i + 1))) (dnT W J P (i + 1)).length (.ch 0) :=by
     rw [hq,qkg,qgd,List.length_append];rfl
    have e2:AObj.chain ((dnT W J P i).length + (0 + 1)) 1 3 = .chain (dnT W J P (i + 1)).length 1 3 :=by rw [qkg,List.length_append];rfl
    try have z125:=qaj hiP
    repeat ((first|refine qaf (nthP gp) ?_|refine qaf (nthP gw) ?_|refine qai ‹_› ?_|refine qah ‹_› ?_|refine pkT ‹_› ?_|refine qaa ‹_› ?_|refine qae hS (by kernel_rfl) ?_);conv => whnf)
    refine qaa (decide_eq_true (show ((dnT W J P i).length + (0 + 1)) * 8 ≤ 140737488355328 by rw [qcw];omega)) ?_
    conv => whnf
    refine qaa (decide_eq_true (show (dnT W J P i).length + (0 + 1) ≤ 9223372036854775807 by rw [qcw];omega)) ?_
    conv => whnf
    refine qaa (qc4 (dnT W J P i)) ?_
    conv => whnf
    refine qaa (decide_eq_true rfl) ?_
    conv => whnf
    exact ⟨(i + 1,.lst (ivs (dnT W J P (i + 1))) (dnT W J P (i + 1)).length (.ch 0),[.chain (dnT W J P (i + 1)).length 1 3]),⟨hi2,.inr ⟨by omega,rfl,rfl⟩⟩,by show J.length - (i + 1) < J.length - i;omega,Nat.le_refl _,(by refine ⟨rfl,rfl,rfl,rfl,rfl,rfl,1,rfl,?_,?_⟩ <;> repeat' (first|exact trivial|exact rfl|exact wkr rfl|exact wko rfl|exact Nat.zero_le _|exact ⟨_,rfl,WkV.int hi1⟩|exact ⟨_,rfl,WkV.eq e1⟩|exact e2|exact qad lW|exact qad lJ|exact qad lP|exact kle rfl|exact bdq|exact mxI rfl|exact mxS rfl|apply And.intro))⟩
  ·refine qac (qbh hi2) ?_
   conv => whnf
   refine .inl ?_
   conv => whnf
   have ei:i = J.length :=by omega
   rw [ei]
   exact ⟨_,rfl,qxs rfl⟩
end
end Go.Abs.Seat
