/-
  What the program tells of a piece: trains, rates, how far off.
-/
import Derived.Test.YtlmadgdonalncaaGreatDoorB16
import Derived.Test.YtlmadgdonalncaaGreatDoorU7
import Derived.Test.YtlmadgdonalncaaGreatDoorU10
import Derived.Test.YtlmadgdonalncaaGreatDoorT36
namespace Go.Abs.Seat
noncomputable section
open Go Go.Abs Go.Proofs.Tryz
set_option maxRecDepth 100000
set_option maxHeartbeats 40000000
attribute [local irreducible] IntKind.wrap pEq




def okW (e:LkI):Prop :=(0 ≤ e.1 ∧ e.1 ≤ 3) ∧ (1 ≤ e.2.1 ∧ e.2.1 ≤ 12) ∧ (0 ≤ e.2.2 ∧ e.2.2 ≤ 100)
def areW (L:List LkI):Prop :=(1 ≤ L.length ∧ L.length ≤ 3) ∧ ∀ j,j < L.length → okW (gL L j)
instance (L:List LkI):Decidable (areW L) :=Classical.propDecidable _
def okJ (e:LkI):Prop :=(1 ≤ e.1 ∧ e.1 ≤ 40) ∧ (0 ≤ e.2.1 ∧ e.2.1 ≤ 3) ∧ (1 ≤ e.2.2 ∧ e.2.2 ≤ 60)
def areJ (L:List LkI):Prop :=(1 ≤ L.length ∧ L.length ≤ 6) ∧ ∀ j,j < L.length → okJ (gL L j)
instance (L:List LkI):Decidable (areJ L) :=Classical.propDecidable _
theorem q0q {L:List LkI} (hl:L.length ≤ 3) (h1:1 ≤ L.length):Pure prog 70 [lkA L] (.bool (decide (areW L))) :=by
 obtain ⟨B,hB⟩ : ∃ B,decide (areW L) = B :=⟨_,rfl⟩
 rw [hB]
 have lL :=qa0 L
 have k1:decide (1 ≤ (L.length:Int) ∧ (L.length:Int) ≤ 3) = true :=decide_eq_true (by omega)
 refine qan hE rfl (by repeat' first|exact trivial|assumption|exact qaf _|exact fun _ h => nomatch h|apply And.intro) (by repeat' first|exact trivial|assumption|exact qaf _|exact fun _ h => nomatch h|apply And.intro) fun S q pc hS hq hC hE => ?_
 conv => whnf
 repeat ((first|refine qak k1 ?_|refine qaj k1 ?_|refine pkT k1 ?_|refine qaa k1 ?_|refine qak (qar k1) ?_|refine qaj (qar k1) ?_|refine pkT (qar k1) ?_|refine qaa (qar k1) ?_|refine qac hC (qay (L.length:Int) 1 3) ?_|refine qad hS (by kernel_rfl) ?_);conv => whnf)
 refine qas hC ?_
 conv => whnf
 refine qam hE hS ?_
 conv => whnf
 refine qas hC ?_
 conv => whnf
 refine qam hE hS ?_
 conv => whnf
 refine qaw hE hS (A :=Nat) [0,1,7] (fun i => [(8,nv i)]) (fun _ => []) (fun _ => []) (fun i => i ≤ L.length ∧ ∀ j,j < i → okW (gL L j)) (fun i => L.length - i) 0 (kle rfl) rfl (zhg 0) ⟨Nat.zero_le _,fun _ h => absurd h (Nat.not_lt_zero _)⟩ ?_
 intro i ⟨hi,hj⟩ K hK
 obtain rfl:K = 0 :=hK
 conv => whnf
 by_cases hi2:i < L.length
 ·refine qaa (qau hi2) ?_
  conv => whnf
  refine qaa (qal hi2) ?_
  conv => whnf
  refine qae (takP (qc8 L hi2)) ?_
  conv => whnf
  refine qas hC ?_
  conv => whnf
  refine qam hE hS ?_
  conv => whnf
  have bad:¬ okW (gL L i) → decide (areW L) = false :=fun z => decide_eq_false fun k => z (k.2 i hi2)
  have hi1:IntKind.i64.wrap (Int.ofNat i + 1) = Int.ofNat (i + 1) :=qa1 (m :=i + 1) (by omega)
  by_cases p0:(0 ≤ (gL L i).1 ∧ (gL L i).1 ≤ 3)
  ·have c0:(!decide (0 ≤ (gL L i).1 ∧ (gL L i).1 ≤ 3)) = false :=nt_t (decide_eq_true p0)
   by_cases p1:(1 ≤ (gL L i).2.1 ∧ (gL L i).2.1 ≤ 12)
   ·have c1:(!decide (1 ≤ (gL L i).2.1 ∧ (gL L i).2.1 ≤ 12)) = false :=nt_t (decide_eq_true p1)
    by_cases p2:(0 ≤ (gL L i).2.2 ∧ (gL L i).2.2 ≤ 100)
    ·have c2:(!decide (0 ≤ (gL L i).2.2 ∧ (gL L i).2.2 ≤ 100)) = false :=nt_t (decide_eq_true p2)
     repeat ((first|refine qap ‹_› ?_|refine qaq ‹_› ?_|refine pkF ‹_› ?_|refine qab ‹_› ?_|refine qak (gff ‹_›) ?_|refine qaj (gff ‹_›) ?_|refine pkT (gff ‹_›) ?_|refine qaa (gff ‹_›) ?_|refine qac hC (qay (gL L i).1 0 3) ?_|refine qac hC (qay (gL L i).2.1 1 12) ?_|refine qac hC (qay (gL L i).2.2 0 100) ?_|refine qad hS (by kernel_rfl) ?_);conv => whnf)
     exact ⟨i + 1,⟨hi2,fun j h => by
      by_cases e:j = i
      ·rw [e];exact ⟨p0,p1,p2⟩
      ·exact hj j (by omega)⟩,by omega,Nat.le_refl _,(zhg 0)⟩
    ·have c2:(!decide (0 ≤ (gL L i).2.2 ∧ (gL L i).2.2 ≤ 100)) = true :=nt_f (decide_eq_false p2)
     repeat ((first|refine qak ‹_› ?_|refine qaj ‹_› ?_|refine pkT ‹_› ?_|refine qaa ‹_› ?_|refine qap ‹_› ?_|refine qaq ‹_› ?_|refine pkF ‹_› ?_|refine qab ‹_› ?_|refine qak (gff ‹_›) ?_|refine qaj (gff ‹_›) ?_|refine pkT (gff ‹_›) ?_|refine qaa (gff ‹_›) ?_|refine qap (gft ‹_›) ?_|refine qaq (gft ‹_›) ?_|refine pkF (gft ‹_›) ?_|refine qab (gft ‹_›) ?_|refine qak (qar ‹_›) ?_|refine qaj (qar ‹_›) ?_|refine pkT (qar ‹_›) ?_|refine qaa (qar ‹_›) ?_|refine qac hC (qay (gL L i).1 0 3) ?_|refine qac hC (qay (gL L i).2.1 1 12) ?_|refine qac hC (qay (gL L i).2.2 0 100) ?_|refine qad hS (by kernel_rfl) ?_);conv => whnf)
     conv => whnf
     exact ⟨_,rfl,wkb ((bad (fun z => p2 z.2.2)).symm.trans hB)⟩
   ·have c1:(!decide (1 ≤ (gL L i).2.1 ∧ (gL L i).2.1 ≤ 12)) = true :=nt_f (decide_eq_false p1)
    repeat ((first|refine qak ‹_› ?_|refine qaj ‹_› ?_|refine pkT ‹_› ?_|refine qaa ‹_› ?_|refine qap ‹_› ?_|refine qaq ‹_› ?_|refine pkF ‹_› ?_|refine qab ‹_› ?_|refine qak (gff ‹_›) ?_|refine qaj (gff ‹_›) ?_|refine pkT (gff ‹_›) ?_|refine qaa (gff ‹_›) ?_|refine qap (gft ‹_›) ?_|refine qaq (gft ‹_›) ?_|refine pkF (gft ‹_›) ?_|refine qab (gft ‹_›) ?_|refine qak (qar ‹_›) ?_|refine qaj (qar ‹_›) ?_|refine pkT (qar ‹_›) ?_|refine qaa (qar ‹_›) ?_|refine qac hC (qay (gL L i).1 0 3) ?_|refine qac hC (qay (gL L i).2.1 1 12) ?_|refine qac hC (qay (gL L i).2.2 0 100) ?_|refine qad hS (by kernel_rfl) ?_);conv => whnf)
    conv => whnf
    exact ⟨_,rfl,wkb ((bad (fun z => p1 z.2.1)).symm.trans hB)⟩
  ·have c0:(!decide (0 ≤ (gL L i).1 ∧ (gL L i).1 ≤ 3)) = true :=nt_f (decide_eq_false p0)
   repeat ((first|refine qak ‹_› ?_|refine qaj ‹_› ?_|refine pkT ‹_› ?_|refine qaa ‹_› ?_|refine qap (gft ‹_›) ?_|refine qaq (gft ‹_›) ?_|refine pkF (gft ‹_›) ?_|refine qab (gft ‹_›) ?_|refine qak (qar ‹_›) ?_|refine qaj (qar ‹_›) ?_|refine pkT (qar ‹_›) ?_|refine qaa (qar ‹_›) ?_|refine qac hC (qay (gL L i).1 0 3) ?_|refine qac hC (qay (gL L i).2.1 1 12) ?_|refine qac hC (qay (gL L i).2.2 0 100) ?_|refine qad hS (by kernel_rfl) ?_);conv => whnf)
   conv => whnf
   exact ⟨_,rfl,wkb ((bad (fun z => p0 z.1)).symm.trans hB)⟩
 ·refine qab (qa6 hi2) ?_
  conv => whnf
  refine .inl ?_
  conv => whnf
  repeat ((first|refine qak k1 ?_|refine qaj k1 ?_|refine pkT k1 ?_|refine qaa k1 ?_|refine qak (qar k1) ?_|refine qaj (qar k1) ?_|refine pkT (qar k1) ?_|refine qaa (qar k1) ?_|refine qad hS (by kernel_rfl) ?_);conv => whnf)
  exact ⟨_,rfl,wkb ((decide_eq_true (show areW L from ⟨⟨h1,hl⟩,fun j h => hj j (by omega)⟩)).symm.trans hB)⟩
theorem qip {x:AV} {L:List LkI} (hx:LL x L):Pure prog 70 [x] (.bool (decide (areW L))) :=by
 have lx :=hx.no
 by_cases h:1 ≤ L.length ∧ L.length ≤ 3
 ·rcases hx with ⟨_,rfl⟩ | rfl
  ·exact absurd h.1 (by decide)
  ·exact q0q h.2 h.1
 ·have k1:decide (1 ≤ (L.length:Int) ∧ (L.length:Int) ≤ 3) = false :=decide_eq_false (by omega)
  rw [decide_eq_false (show ¬ areW L from fun z => h z.1)]
  rcases hx with ⟨rfl,rfl⟩ | rfl
  all_goals
   refine qan hE rfl (by repeat' first|exact trivial|assumption|exact qaf _|exact fun _ h => nomatch h|apply And.intro) (by repeat' first|exact trivial|assumption|exact qaf _|exact fun _ h => nomatch h|apply And.intro) fun S q pc hS hq hC hE => ?_
   conv => whnf
   repeat ((first|refine qap k1 ?_|refine qaq k1 ?_|refine pkF k1 ?_|refine qab k1 ?_|refine qap (qa2 k1) ?_|refine qaq (qa2 k1) ?_|refine pkF (qa2 k1) ?_|refine qab (qa2 k1) ?_|refine qac hC (qay (([]:List LkI).length:Int) 1 3) ?_|refine qac hC (qay (L.length:Int) 1 3) ?_|refine qad hS (by kernel_rfl) ?_);conv => whnf)
   exact ⟨_,rfl,Wk.refl _⟩
theorem q0r {L:List LkI} (hl:L.length ≤ 6) (h1:1 ≤ L.length):Pure prog 71 [lkA L] (.bool (decide (areJ L))) :=by
 obtain ⟨B,hB⟩ : ∃ B,decide (areJ L) = B :=⟨_,rfl⟩
 rw [hB]
 have lL :=qa0 L
 have k1:decide (1 ≤ (L.length:Int) ∧ (L.length:Int) ≤ 6) = true :=decide_eq_true (by omega)
 refine qan hE rfl (by repeat' first|exact trivial|assumption|exact qaf _|exact fun _ h => nomatch h|apply And.intro) (by repeat' first|exact trivial|assumption|exact qaf _|exact fun _ h => nomatch h|apply And.intro) fun S q pc hS hq hC hE => ?_
 conv => whnf
 repeat ((first|refine qak k1 ?_|refine qaj k1 ?_|refine pkT k1 ?_|refine qaa k1 ?_|refine qak (qar k1) ?_|refine qaj (qar k1) ?_|refine pkT (qar k1) ?_|refine qaa (qar k1) ?_|refine qac hC (qay (L.length:Int) 1 6) ?_|refine qad hS (by kernel_rfl) ?_);conv => whnf)
 refine qas hC ?_
 conv => whnf
 refine qam hE hS ?_
 conv => whnf
 refine qas hC ?_
 conv => whnf
 refine qam hE hS ?_
 conv => whnf
 refine qaw hE hS (A :=Nat) [0,1,7] (fun i => [(8,nv i)]) (fun _ => []) (fun _ => []) (fun i => i ≤ L.length ∧ ∀ j,j < i → okJ (gL L j)) (fun i => L.length - i) 0 (kle rfl) rfl (zhg 0) ⟨Nat.zero_le _,fun _ h => absurd h (Nat.not_lt_zero _)⟩ ?_
 intro i ⟨hi,hj⟩ K hK
 obtain rfl:K = 0 :=hK
 conv => whnf
 by_cases hi2:i < L.length
 ·refine qaa (qau hi2) ?_
  conv => whnf
  refine qaa (qal hi2) ?_
  conv => whnf
  refine qae (takP (qc8 L hi2)) ?_
  conv => whnf
  refine qas hC ?_
  conv => whnf
  refine qam hE hS ?_
  conv => whnf
  have bad:¬ okJ (gL L i) → decide (areJ L) = false :=fun z => decide_eq_false fun k => z (k.2 i hi2)
  have hi1:IntKind.i64.wrap (Int.ofNat i + 1) = Int.ofNat (i + 1) :=qa1 (m :=i + 1) (by omega)
  by_cases p0:(1 ≤ (gL L i).1 ∧ (gL L i).1 ≤ 40)
  ·have c0:(!decide (1 ≤ (gL L i).1 ∧ (gL L i).1 ≤ 40)) = false :=nt_t (decide_eq_true p0)
   by_cases p1:(0 ≤ (gL L i).2.1 ∧ (gL L i).2.1 ≤ 3)
   ·have c1:(!decide (0 ≤ (gL L i).2.1 ∧ (gL L i).2.1 ≤ 3)) = false :=nt_t (decide_eq_true p1)
    by_cases p2:(1 ≤ (gL L i).2.2 ∧ (gL L i).2.2 ≤ 60)
    ·have c2:(!decide (1 ≤ (gL L i).2.2 ∧ (gL L i).2.2 ≤ 60)) = false :=nt_t (decide_eq_true p2)
     repeat ((first|refine qap ‹_› ?_|refine qaq ‹_› ?_|refine pkF ‹_› ?_|refine qab ‹_› ?_|refine qak (gff ‹_›) ?_|refine qaj (gff ‹_›) ?_|refine pkT (gff ‹_›) ?_|refine qaa (gff ‹_›) ?_|refine qac hC (qay (gL L i).1 1 40) ?_|refine qac hC (qay (gL L i).2.1 0 3) ?_|refine qac hC (qay (gL L i).2.2 1 60) ?_|refine qad hS (by kernel_rfl) ?_);conv => whnf)
     exact ⟨i + 1,⟨hi2,fun j h => by
      by_cases e:j = i
      ·rw [e];exact ⟨p0,p1,p2⟩
      ·exact hj j (by omega)⟩,by omega,Nat.le_refl _,(zhg 0)⟩
    ·have c2:(!decide (1 ≤ (gL L i).2.2 ∧ (gL L i).2.2 ≤ 60)) = true :=nt_f (decide_eq_false p2)
     repeat ((first|refine qak ‹_› ?_|refine qaj ‹_› ?_|refine pkT ‹_› ?_|refine qaa ‹_› ?_|refine qap ‹_› ?_|refine qaq ‹_› ?_|refine pkF ‹_› ?_|refine qab ‹_› ?_|refine qak (gff ‹_›) ?_|refine qaj (gff ‹_›) ?_|refine pkT (gff ‹_›) ?_|refine qaa (gff ‹_›) ?_|refine qap (gft ‹_›) ?_|refine qaq (gft ‹_›) ?_|refine pkF (gft ‹_›) ?_|refine qab (gft ‹_›) ?_|refine qak (qar ‹_›) ?_|refine qaj (qar ‹_›) ?_|refine pkT (qar ‹_›) ?_|refine qaa (qar ‹_›) ?_|refine qac hC (qay (gL L i).1 1 40) ?_|refine qac hC (qay (gL L i).2.1 0 3) ?_|refine qac hC (qay (gL L i).2.2 1 60) ?_|refine qad hS (by kernel_rfl) ?_);conv => whnf)
     conv => whnf
     exact ⟨_,rfl,wkb ((bad (fun z => p2 z.2.2)).symm.trans hB)⟩
   ·have c1:(!decide (0 ≤ (gL L i).2.1 ∧ (gL L i).2.1 ≤ 3)) = true :=nt_f (decide_eq_false p1)
    repeat ((first|refine qak ‹_› ?_|refine qaj ‹_› ?_|refine pkT ‹_› ?_|refine qaa ‹_› ?_|refine qap ‹_› ?_|refine qaq ‹_› ?_|refine pkF ‹_› ?_|refine qab ‹_› ?_|refine qak (gff ‹_›) ?_|refine qaj (gff ‹_›) ?_|refine pkT (gff ‹_›) ?_|refine qaa (gff ‹_›) ?_|refine qap (gft ‹_›) ?_|refine qaq (gft ‹_›) ?_|refine pkF (gft ‹_›) ?_|refine qab (gft ‹_›) ?_|refine qak (qar ‹_›) ?_|refine qaj (qar ‹_›) ?_|refine pkT (qar ‹_›) ?_|refine qaa (qar ‹_›) ?_|refine qac hC (qay (gL L i).1 1 40) ?_|refine qac hC (qay (gL L i).2.1 0 3) ?_|refine qac hC (qay (gL L i).2.2 1 60) ?_|refine qad hS (by kernel_rfl) ?_);conv => whnf)
    conv => whnf
    exact ⟨_,rfl,wkb ((bad (fun z => p1 z.2.1)).symm.trans hB)⟩
  ·have c0:(!decide (1 ≤ (gL L i).1 ∧ (gL L i).1 ≤ 40)) = true :=nt_f (decide_eq_false p0)
   repeat ((first|refine qak ‹_› ?_|refine qaj ‹_› ?_|refine pkT ‹_› ?_|refine qaa ‹_› ?_|refine qap (gft ‹_›) ?_|refine qaq (gft ‹_›) ?_|refine pkF (gft ‹_›) ?_|refine qab (gft ‹_›) ?_|refine qak (qar ‹_›) ?_|refine qaj (qar ‹_›) ?_|refine pkT (qar ‹_›) ?_|refine qaa (qar ‹_›) ?_|refine qac hC (qay (gL L i).1 1 40) ?_|refine qac hC (qay (gL L i).2.1 0 3) ?_|refine qac hC (qay (gL L i).2.2 1 60) ?_|refine qad hS (by kernel_rfl) ?_);conv => whnf)
   conv => whnf
   exact ⟨_,rfl,wkb ((bad (fun z => p0 z.1)).symm.trans hB)⟩
 ·refine qab (qa6 hi2) ?_
  conv => whnf
  refine .inl ?_
  conv => whnf
  repeat ((first|refine qak k1 ?_|refine qaj k1 ?_|refine pkT k1 ?_|refine qaa k1 ?_|refine qak (qar k1) ?_|refine qaj (qar k1) ?_|refine pkT (qar k1) ?_|refine qaa (qar k1) ?_|refine qad hS (by kernel_rfl) ?_);conv => whnf)
  exact ⟨_,rfl,wkb ((decide_eq_true (show areJ L from ⟨⟨h1,hl⟩,fun j h => hj j (by omega)⟩)).symm.trans hB)⟩
theorem qiq {x:AV} {L:List LkI} (hx:LL x L):Pure prog 71 [x] (.bool (decide (areJ L))) :=by
 have lx :=hx.no
 by_cases h:1 ≤ L.length ∧ L.length ≤ 6
 ·rcases hx with ⟨_,rfl⟩ | rfl
  ·exact absurd h.1 (by decide)
  ·exact q0r h.2 h.1
 ·have k1:decide (1 ≤ (L.length:Int) ∧ (L.length:Int) ≤ 6) = false :=decide_eq_false (by omega)
  rw [decide_eq_false (show ¬ areJ L from fun z => h z.1)]
  rcases hx with ⟨rfl,rfl⟩ | rfl
  all_goals
   refine qan hE rfl (by repeat' first|exact trivial|assumption|exact qaf _|exact fun _ h => nomatch h|apply And.intro) (by repeat' first|exact trivial|assumption|exact qaf _|exact fun _ h => nomatch h|apply And.intro) fun S q pc hS hq hC hE => ?_
   conv => whnf
   repeat ((first|refine qap k1 ?_|refine qaq k1 ?_|refine pkF k1 ?_|refine qab k1 ?_|refine qap (qa2 k1) ?_|refine qaq (qa2 k1) ?_|refine pkF (qa2 k1) ?_|refine qab (qa2 k1) ?_|refine qac hC (qay (([]:List LkI).length:Int) 1 6) ?_|refine qac hC (qay (L.length:Int) 1 6) ?_|refine qad hS (by kernel_rfl) ?_);conv => whnf)
   exact ⟨_,rfl,Wk.refl _⟩
theorem qu2 {W J:List LkI} (hw:W.length ≤ 5) (hj:J.length ≤ 8):Pure prog 26 [lkA W,lkA J] (.bool (decide (areW W ∧ areJ J))) :=by
 obtain ⟨B,hB⟩ : ∃ B,decide (areW W ∧ areJ J) = B :=⟨_,rfl⟩
 rw [hB]
 have lW :=qa0 W
 have lJ :=qa0 J
 refine qan hE rfl (by repeat' first|exact trivial|assumption|exact qaf _|exact fun _ h => nomatch h|apply And.intro) (by repeat' first|exact trivial|assumption|exact qaf _|exact fun _ h => nomatch h|apply And.intro) fun S q pc hS hq hC hE => ?_
 conv => whnf
 refine qaw hE hS (A :=Nat) [0,1] (fun i => [(5,nv i)]) (fun _ => []) (fun _ => []) (fun i => i ≤ W.length ∧ ∀ j,j < i → okW (gL W j)) (fun i => W.length - i) 0 (kle rfl) rfl (zhg 0) ⟨Nat.zero_le _,fun _ h => absurd h (Nat.not_lt_zero _)⟩ ?_
 intro i ⟨hi,hjW⟩ K hK
 obtain rfl:K = 0 :=hK
 conv => whnf
 by_cases hi2:i < W.length
 ·have g0 :=qbe W i hi2
  have g1 :=qbu W i hi2
  have g2 :=qbt W i hi2
  have bad:¬ okW (gL W i) → decide (areW W ∧ areJ J) = false :=fun z => decide_eq_false fun k => z (k.1.2 i hi2)
  have hi1:IntKind.i64.wrap (Int.ofNat i + 1) = Int.ofNat (i + 1) :=qa1 (m :=i + 1) (by omega)
  by_cases p0:(0 ≤ (gL W i).1 ∧ (gL W i).1 ≤ 3)
  ·have c0:(!decide (0 ≤ (gL W i).1 ∧ (gL W i).1 ≤ 3)) = false :=nt_t (decide_eq_true p0)
   by_cases p1:(1 ≤ (gL W i).2.1 ∧ (gL W i).2.1 ≤ 12)
   ·have c1:(!decide (1 ≤ (gL W i).2.1 ∧ (gL W i).2.1 ≤ 12)) = false :=nt_t (decide_eq_true p1)
    by_cases p2:(0 ≤ (gL W i).2.2 ∧ (gL W i).2.2 ≤ 100)
    ·have c2:(!decide (0 ≤ (gL W i).2.2 ∧ (gL W i).2.2 ≤ 100)) = false :=nt_t (decide_eq_true p2)
     try have z1:=qau hi2
     try have z2:=qal hi2
     repeat ((first|refine qae (nthP g0) ?_|refine qae (nthP g1) ?_|refine qae (nthP g2) ?_|refine qak ‹_› ?_|refine qaj ‹_› ?_|refine pkT ‹_› ?_|refine qaa ‹_› ?_|refine qap ‹_› ?_|refine qaq ‹_› ?_|refine pkF ‹_› ?_|refine qab ‹_› ?_|refine qak (gff ‹_›) ?_|refine qaj (gff ‹_›) ?_|refine pkT (gff ‹_›) ?_|refine qaa (gff ‹_›) ?_|refine qac hC (qax (gL W i).1 0 3) ?_|refine qac hC (qax (gL W i).2.1 1 12) ?_|refine qac hC (qax (gL W i).2.2 0 100) ?_|refine qad hS (by kernel_rfl) ?_);conv => whnf)
     exact ⟨i + 1,⟨hi2,fun j h => by
      by_cases e:j = i
      ·rw [e];exact ⟨p0,p1,p2⟩
      ·exact hjW j (by omega)⟩,by omega,Nat.le_refl _,(zhg 0)⟩
    ·have c2:(!decide (0 ≤ (gL W i).2.2 ∧ (gL W i).2.2 ≤ 100)) = true :=nt_f (decide_eq_false p2)
     try have z3:=qau hi2
     try have z4:=qal hi2
     repeat ((first|refine qae (nthP g0) ?_|refine qae (nthP g1) ?_|refine qae (nthP g2) ?_|refine qak ‹_› ?_|refine qaj ‹_› ?_|refine pkT ‹_› ?_|refine qaa ‹_› ?_|refine qap ‹_› ?_|refine qaq ‹_› ?_|refine pkF ‹_› ?_|refine qab ‹_› ?_|refine qak (gff ‹_›) ?_|refine qaj (gff ‹_›) ?_|refine pkT (gff ‹_›) ?_|refine qaa (gff ‹_›) ?_|refine qap (gft ‹_›) ?_|refine qaq (gft ‹_›) ?_|refine pkF (gft ‹_›) ?_|refine qab (gft ‹_›) ?_|refine qac hC (qax (gL W i).1 0 3) ?_|refine qac hC (qax (gL W i).2.1 1 12) ?_|refine qac hC (qax (gL W i).2.2 0 100) ?_|refine qad hS (by kernel_rfl) ?_);conv => whnf)
     exact ⟨_,rfl,wkb ((bad (fun z => p2 z.2.2)).symm.trans hB)⟩
   ·have c1:(!decide (1 ≤ (gL W i).2.1 ∧ (gL W i).2.1 ≤ 12)) = true :=nt_f (decide_eq_false p1)
    try have z5:=qau hi2
    try have z6:=qal hi2
    repeat ((first|refine qae (nthP g0) ?_|refine qae (nthP g1) ?_|refine qae (nthP g2) ?_|refine qak ‹_› ?_|refine qaj ‹_› ?_|refine pkT ‹_› ?_|refine qaa ‹_› ?_|refine qap ‹_› ?_|refine qaq ‹_› ?_|refine pkF ‹_› ?_|refine qab ‹_› ?_|refine qak (gff ‹_›) ?_|refine qaj (gff ‹_›) ?_|refine pkT (gff ‹_›) ?_|refine qaa (gff ‹_›) ?_|refine qap (gft ‹_›) ?_|refine qaq (gft ‹_›) ?_|refine pkF (gft ‹_›) ?_|refine qab (gft ‹_›) ?_|refine qac hC (qax (gL W i).1 0 3) ?_|refine qac hC (qax (gL W i).2.1 1 12) ?_|refine qac hC (qax (gL W i).2.2 0 100) ?_|refine qad hS (by kernel_rfl) ?_);conv => whnf)
    exact ⟨_,rfl,wkb ((bad (fun z => p1 z.2.1)).symm.trans hB)⟩
  ·have c0:(!decide (0 ≤ (gL W i).1 ∧ (gL W i).1 ≤ 3)) = true :=nt_f (decide_eq_false p0)
   try have z7:=qau hi2
   try have z8:=qal hi2
   repeat ((first|refine qae (nthP g0) ?_|refine qae (nthP g1) ?_|refine qae (nthP g2) ?_|refine qak ‹_› ?_|refine qaj ‹_› ?_|refine pkT ‹_› ?_|refine qaa ‹_› ?_|refine qap ‹_› ?_|refine qaq ‹_› ?_|refine pkF ‹_› ?_|refine qab ‹_› ?_|refine qap (gft ‹_›) ?_|refine qaq (gft ‹_›) ?_|refine pkF (gft ‹_›) ?_|refine qab (gft ‹_›) ?_|refine qac hC (qax (gL W i).1 0 3) ?_|refine qac hC (qax (gL W i).2.1 1 12) ?_|refine qac hC (qax (gL W i).2.2 0 100) ?_|refine qad hS (by kernel_rfl) ?_);conv => whnf)
   exact ⟨_,rfl,wkb ((bad (fun z => p0 z.1)).symm.trans hB)⟩
 ·refine qab (qa6 hi2) ?_
  conv => whnf
  refine .inl ?_
  conv => whnf
  have haW:∀ j,j < W.length → okW (gL W j) :=fun j h => hjW j (by omega)
  clear hi hi2 hjW
  refine qaw hE hS (A :=Nat) [0,1] (fun i => [(6,nv i)]) (fun _ => []) (fun _ => []) (fun i => i ≤ J.length ∧ ∀ j,j < i → okJ (gL J j)) (fun i => J.length - i) 0 (kle rfl) rfl (zhg 0) ⟨Nat.zero_le _,fun _ h => absurd h (Nat.not_lt_zero _)⟩ ?_
  intro i ⟨hi,hjJ⟩ K hK
  obtain rfl:K = 0 :=hK
  conv => whnf
  by_cases hi2:i < J.length
  ·have g0 :=qbe J i hi2
   have g1 :=qbu J i hi2
   have g2 :=qbt J i hi2
   have bad:¬ okJ (gL J i) → decide (areW W ∧ areJ J) = false :=fun z => decide_eq_false fun k => z (k.2.2 i hi2)
   have hi1:IntKind.i64.wrap (Int.ofNat i + 1) = Int.ofNat (i + 1) :=qa1 (m :=i + 1) (by omega)
   by_cases p0:(1 ≤ (gL J i).1 ∧ (gL J i).1 ≤ 40)
   ·have c0:(!decide (1 ≤ (gL J i).1 ∧ (gL J i).1 ≤ 40)) = false :=nt_t (decide_eq_true p0)
    by_cases p1:(0 ≤ (gL J i).2.1 ∧ (gL J i).2.1 ≤ 3)
    ·have c1:(!decide (0 ≤ (gL J i).2.1 ∧ (gL J i).2.1 ≤ 3)) = false :=nt_t (decide_eq_true p1)
     by_cases p2:(1 ≤ (gL J i).2.2 ∧ (gL J i).2.2 ≤ 60)
     ·have c2:(!decide (1 ≤ (gL J i).2.2 ∧ (gL J i).2.2 ≤ 60)) = false :=nt_t (decide_eq_true p2)
      try have z9:=qau hi2
      try have z10:=qal hi2
      repeat ((first|refine qae (nthP g0) ?_|refine qae (nthP g1) ?_|refine qae (nthP g2) ?_|refine qak ‹_› ?_|refine qaj ‹_› ?_|refine pkT ‹_› ?_|refine qaa ‹_› ?_|refine qap ‹_› ?_|refine qaq ‹_› ?_|refine pkF ‹_› ?_|refine qab ‹_› ?_|refine qak (gff ‹_›) ?_|refine qaj (gff ‹_›) ?_|refine pkT (gff ‹_›) ?_|refine qaa (gff ‹_›) ?_|refine qac hC (qax (gL J i).1 1 40) ?_|refine qac hC (qax (gL J i).2.1 0 3) ?_|refine qac hC (qax (gL J i).2.2 1 60) ?_|refine qad hS (by kernel_rfl) ?_);conv => whnf)
      exact ⟨i + 1,⟨hi2,fun j h => by
       by_cases e:j = i
       ·rw [e];exact ⟨p0,p1,p2⟩
       ·exact hjJ j (by omega)⟩,by omega,Nat.le_refl _,(zhg 0)⟩
     ·have c2:(!decide (1 ≤ (gL J i).2.2 ∧ (gL J i).2.2 ≤ 60)) = true :=nt_f (decide_eq_false p2)
      try have z11:=qau hi2
      try have z12:=qal hi2
      repeat ((first|refine qae (nthP g0) ?_|refine qae (nthP g1) ?_|refine qae (nthP g2) ?_|refine qak ‹_› ?_|refine qaj ‹_› ?_|refine pkT ‹_› ?_|refine qaa ‹_› ?_|refine qap ‹_› ?_|refine qaq ‹_› ?_|refine pkF ‹_› ?_|refine qab ‹_› ?_|refine qak (gff ‹_›) ?_|refine qaj (gff ‹_›) ?_|refine pkT (gff ‹_›) ?_|refine qaa (gff ‹_›) ?_|refine qap (gft ‹_›) ?_|refine qaq (gft ‹_›) ?_|refine pkF (gft ‹_›) ?_|refine qab (gft ‹_›) ?_|refine qac hC (qax (gL J i).1 1 40) ?_|refine qac hC (qax (gL J i).2.1 0 3) ?_|refine qac hC (qax (gL J i).2.2 1 60) ?_|refine qad hS (by kernel_rfl) ?_);conv => whnf)
      exact ⟨_,rfl,wkb ((bad (fun z => p2 z.2.2)).symm.trans hB)⟩
    ·have c1:(!decide (0 ≤ (gL J i).2.1 ∧ (gL J i).2.1 ≤ 3)) = true :=nt_f (decide_eq_false p1)
     try have z13:=qau hi2
     try have z14:=qal hi2
     repeat ((first|refine qae (nthP g0) ?_|refine qae (nthP g1) ?_|refine qae (nthP g2) ?_|refine qak ‹_› ?_|refine qaj ‹_› ?_|refine pkT ‹_› ?_|refine qaa ‹_› ?_|refine qap ‹_› ?_|refine qaq ‹_› ?_|refine pkF ‹_› ?_|refine qab ‹_› ?_|refine qak (gff ‹_›) ?_|refine qaj (gff ‹_›) ?_|refine pkT (gff ‹_›) ?_|refine qaa (gff ‹_›) ?_|refine qap (gft ‹_›) ?_|refine qaq (gft ‹_›) ?_|refine pkF (gft ‹_›) ?_|refine qab (gft ‹_›) ?_|refine qac hC (qax (gL J i).1 1 40) ?_|refine qac hC (qax (gL J i).2.1 0 3) ?_|refine qac hC (qax (gL J i).2.2 1 60) ?_|refine qad hS (by kernel_rfl) ?_);conv => whnf)
     exact ⟨_,rfl,wkb ((bad (fun z => p1 z.2.1)).symm.trans hB)⟩
   ·have c0:(!decide (1 ≤ (gL J i).1 ∧ (gL J i).1 ≤ 40)) = true :=nt_f (decide_eq_false p0)
    try have z15:=qau hi2
    try have z16:=qal hi2
    repeat ((first|refine qae (nthP g0) ?_|refine qae (nthP g1) ?_|refine qae (nthP g2) ?_|refine qak ‹_› ?_|refine qaj ‹_› ?_|refine pkT ‹_› ?_|refine qaa ‹_› ?_|refine qap ‹_› ?_|refine qaq ‹_› ?_|refine pkF ‹_› ?_|refine qab ‹_› ?_|refine qap (gft ‹_›) ?_|refine qaq (gft ‹_›) ?_|refine pkF (gft ‹_›) ?_|refine qab (gft ‹_›) ?_|refine qac hC (qax (gL J i).1 1 40) ?_|refine qac hC (qax (gL J i).2.1 0 3) ?_|refine qac hC (qax (gL J i).2.2 1 60) ?_|refine qad hS (by kernel_rfl) ?_);conv => whnf)
    exact ⟨_,rfl,wkb ((bad (fun z => p0 z.1)).symm.trans hB)⟩
  ·refine qab (qa6 hi2) ?_
   conv => whnf
   refine .inl ?_
   conv => whnf
   have haJ:∀ j,j < J.length → okJ (gL J j) :=fun j h => hjJ j (by omega)
   clear hi hi2 hjJ
   by_cases q1:1 ≤ W.length ∧ W.length ≤ 3
   ·have k1:decide (1 ≤ (W.length:Int) ∧ (W.length:Int) ≤ 3) = true :=decide_eq_true (by omega)
    have e:decide (1 ≤ (J.length:Int) ∧ (J.length:Int) ≤ 6) = B :=by
     rw [← hB]
     refine decide_eq_decide.2 ⟨fun z => ⟨⟨q1,haW⟩,by omega,haJ⟩,fun z => ?_⟩
     have :=z.2.1
     omega
    rw [← e]
    repeat ((first|refine qak k1 ?_|refine qaj k1 ?_|refine pkT k1 ?_|refine qaa k1 ?_|refine qak (qar k1) ?_|refine qaj (qar k1) ?_|refine pkT (qar k1) ?_|refine qaa (qar k1) ?_|refine qac hC (qax (W.length:Int) 1 3) ?_|refine qac hC (qax (J.length:Int) 1 6) ?_|refine qad hS (by kernel_rfl) ?_);conv => whnf)
    exact ⟨_,rfl,Wk.refl _⟩
   ·have k1:decide (1 ≤ (W.length:Int) ∧ (W.length:Int) ≤ 3) = false :=decide_eq_false (by omega)
    rw [← hB,decide_eq_false (show ¬ (areW W ∧ areJ J) from fun z => q1 z.1.1)]
    repeat ((first|refine qap k1 ?_|refine qaq k1 ?_|refine pkF k1 ?_|refine qab k1 ?_|refine qap (qa2 k1) ?_|refine qaq (qa2 k1) ?_|refine pkF (qa2 k1) ?_|refine qab (qa2 k1) ?_|refine qac hC (qax (W.length:Int) 1 3) ?_|refine qac hC (qax (J.length:Int) 1 6) ?_|refine qad hS (by kernel_rfl) ?_);conv => whnf)
    exact ⟨_,rfl,Wk.refl _⟩
theorem qu1 {W:List LkI} (hw:W.length ≤ 5):Pure prog 26 [lkA W,.nils] (.bool (decide (areW W ∧ areJ []))) :=by
 obtain ⟨B,hB⟩ : ∃ B,decide (areW W ∧ areJ []) = B :=⟨_,rfl⟩
 rw [hB]
 have lW :=qa0 W
 refine qan hE rfl (by repeat' first|exact trivial|assumption|exact qaf _|exact fun _ h => nomatch h|apply And.intro) (by repeat' first|exact trivial|assumption|exact qaf _|exact fun _ h => nomatch h|apply And.intro) fun S q pc hS hq hC hE => ?_
 conv => whnf
 refine qaw hE hS (A :=Nat) [0,1] (fun i => [(5,nv i)]) (fun _ => []) (fun _ => []) (fun i => i ≤ W.length ∧ ∀ j,j < i → okW (gL W j)) (fun i => W.length - i) 0 (kle rfl) rfl (zhg 0) ⟨Nat.zero_le _,fun _ h => absurd h (Nat.not_lt_zero _)⟩ ?_
 intro i ⟨hi,hjW⟩ K hK
 obtain rfl:K = 0 :=hK
 conv => whnf
 by_cases hi2:i < W.length
 ·have g0 :=qbe W i hi2
  have g1 :=qbu W i hi2
  have g2 :=qbt W i hi2
  have bad:¬ okW (gL W i) → decide (areW W ∧ areJ []) = false :=fun z => decide_eq_false fun k => z (k.1.2 i hi2)
  have hi1:IntKind.i64.wrap (Int.ofNat i + 1) = Int.ofNat (i + 1) :=qa1 (m :=i + 1) (by omega)
  by_cases p0:(0 ≤ (gL W i).1 ∧ (gL W i).1 ≤ 3)
  ·have c0:(!decide (0 ≤ (gL W i).1 ∧ (gL W i).1 ≤ 3)) = false :=nt_t (decide_eq_true p0)
   by_cases p1:(1 ≤ (gL W i).2.1 ∧ (gL W i).2.1 ≤ 12)
   ·have c1:(!decide (1 ≤ (gL W i).2.1 ∧ (gL W i).2.1 ≤ 12)) = false :=nt_t (decide_eq_true p1)
    by_cases p2:(0 ≤ (gL W i).2.2 ∧ (gL W i).2.2 ≤ 100)
    ·have c2:(!decide (0 ≤ (gL W i).2.2 ∧ (gL W i).2.2 ≤ 100)) = false :=nt_t (decide_eq_true p2)
     try have z17:=qau hi2
     try have z18:=qal hi2
     repeat ((first|refine qae (nthP g0) ?_|refine qae (nthP g1) ?_|refine qae (nthP g2) ?_|refine qak ‹_› ?_|refine qaj ‹_› ?_|refine pkT ‹_› ?_|refine qaa ‹_› ?_|refine qap ‹_› ?_|refine qaq ‹_› ?_|refine pkF ‹_› ?_|refine qab ‹_› ?_|refine qak (gff ‹_›) ?_|refine qaj (gff ‹_›) ?_|refine pkT (gff ‹_›) ?_|refine qaa (gff ‹_›) ?_|refine qac hC (qax (gL W i).1 0 3) ?_|refine qac hC (qax (gL W i).2.1 1 12) ?_|refine qac hC (qax (gL W i).2.2 0 100) ?_|refine qad hS (by kernel_rfl) ?_);conv => whnf)
     exact ⟨i + 1,⟨hi2,fun j h => by
      by_cases e:j = i
      ·rw [e];exact ⟨p0,p1,p2⟩
      ·exact hjW j (by omega)⟩,by omega,Nat.le_refl _,(zhg 0)⟩
    ·have c2:(!decide (0 ≤ (gL W i).2.2 ∧ (gL W i).2.2 ≤ 100)) = true :=nt_f (decide_eq_false p2)
     try have z19:=qau hi2
     try have z20:=qal hi2
     repeat ((first|refine qae (nthP g0) ?_|refine qae (nthP g1) ?_|refine qae (nthP g2) ?_|refine qak ‹_› ?_|refine qaj ‹_› ?_|refine pkT ‹_› ?_|refine qaa ‹_› ?_|refine qap ‹_› ?_|refine qaq ‹_› ?_|refine pkF ‹_› ?_|refine qab ‹_› ?_|refine qak (gff ‹_›) ?_|refine qaj (gff ‹_›) ?_|refine pkT (gff ‹_›) ?_|refine qaa (gff ‹_›) ?_|refine qap (gft ‹_›) ?_|refine qaq (gft ‹_›) ?_|refine pkF (gft ‹_›) ?_|refine qab (gft ‹_›) ?_|refine qac hC (qax (gL W i).1 0 3) ?_|refine qac hC (qax (gL W i).2.1 1 12) ?_|refine qac hC (qax (gL W i).2.2 0 100) ?_|refine qad hS (by kernel_rfl) ?_);conv => whnf)
     exact ⟨_,rfl,wkb ((bad (fun z => p2 z.2.2)).symm.trans hB)⟩
   ·have c1:(!decide (1 ≤ (gL W i).2.1 ∧ (gL W i).2.1 ≤ 12)) = true :=nt_f (decide_eq_false p1)
    try have z21:=qau hi2
    try have z22:=qal hi2
    repeat ((first|refine qae (nthP g0) ?_|refine qae (nthP g1) ?_|refine qae (nthP g2) ?_|refine qak ‹_› ?_|refine qaj ‹_› ?_|refine pkT ‹_› ?_|refine qaa ‹_› ?_|refine qap ‹_› ?_|refine qaq ‹_› ?_|refine pkF ‹_› ?_|refine qab ‹_› ?_|refine qak (gff ‹_›) ?_|refine qaj (gff ‹_›) ?_|refine pkT (gff ‹_›) ?_|refine qaa (gff ‹_›) ?_|refine qap (gft ‹_›) ?_|refine qaq (gft ‹_›) ?_|refine pkF (gft ‹_›) ?_|refine qab (gft ‹_›) ?_|refine qac hC (qax (gL W i).1 0 3) ?_|refine qac hC (qax (gL W i).2.1 1 12) ?_|refine qac hC (qax (gL W i).2.2 0 100) ?_|refine qad hS (by kernel_rfl) ?_);conv => whnf)
    exact ⟨_,rfl,wkb ((bad (fun z => p1 z.2.1)).symm.trans hB)⟩
  ·have c0:(!decide (0 ≤ (gL W i).1 ∧ (gL W i).1 ≤ 3)) = true :=nt_f (decide_eq_false p0)
   try have z23:=qau hi2
   try have z24:=qal hi2
   repeat ((first|refine qae (nthP g0) ?_|refine qae (nthP g1) ?_|refine qae (nthP g2) ?_|refine qak ‹_› ?_|refine qaj ‹_› ?_|refine pkT ‹_› ?_|refine qaa ‹_› ?_|refine qap ‹_› ?_|refine qaq ‹_› ?_|refine pkF ‹_› ?_|refine qab ‹_› ?_|refine qap (gft ‹_›) ?_|refine qaq (gft ‹_›) ?_|refine pkF (gft ‹_›) ?_|refine qab (gft ‹_›) ?_|refine qac hC (qax (gL W i).1 0 3) ?_|refine qac hC (qax (gL W i).2.1 1 12) ?_|refine qac hC (qax (gL W i).2.2 0 100) ?_|refine qad hS (by kernel_rfl) ?_);conv => whnf)
   exact ⟨_,rfl,wkb ((bad (fun z => p0 z.1)).symm.trans hB)⟩
 ·refine qab (qa6 hi2) ?_
  conv => whnf
  refine .inl ?_
  conv => whnf
  have haW:∀ j,j < W.length → okW (gL W j) :=fun j h => hjW j (by omega)
  clear hi hi2 hjW
  refine qah hE hS ?_
  conv => whnf
  rw [← hB,decide_eq_false (show ¬ (areW W ∧ areJ []) from fun z => absurd z.2.1.1 (by decide))]
  by_cases q1:1 ≤ W.length ∧ W.length ≤ 3
  ·have k1:decide (1 ≤ (W.length:Int) ∧ (W.length:Int) ≤ 3) = true :=decide_eq_true (by omega)
   repeat ((first|refine qak k1 ?_|refine qaj k1 ?_|refine pkT k1 ?_|refine qaa k1 ?_|refine qak (qar k1) ?_|refine qaj (qar k1) ?_|refine pkT (qar k1) ?_|refine qaa (qar k1) ?_|refine qac hC (qax (W.length:Int) 1 3) ?_|refine qac hC (qax 0 1 6) ?_|refine qad hS (by kernel_rfl) ?_);conv => whnf)
   exact ⟨_,rfl,Wk.refl _⟩
  ·have k1:decide (1 ≤ (W.length:Int) ∧ (W.length:Int) ≤ 3) = false :=decide_eq_false (by omega)
   repeat ((first|refine qap k1 ?_|refine qaq k1 ?_|refine pkF k1 ?_|refine qab k1 ?_|refine qap (qa2 k1) ?_|refine qaq (qa2 k1) ?_|refine pkF (qa2 k1) ?_|refine qab (qa2 k1) ?_|refine qac hC (qax (W.length:Int) 1 3) ?_|refine qac hC (qax 0 1 6) ?_|refine qad hS (by kernel_rfl) ?_);conv => whnf)
   exact ⟨_,rfl,Wk.refl _⟩
theorem qu0 {J:List LkI} (hj:J.length ≤ 8):Pure prog 26 [.nils,lkA J] (.bool (decide (areW [] ∧ areJ J))) :=by
 obtain ⟨B,hB⟩ : ∃ B,decide (areW [] ∧ areJ J) = B :=⟨_,rfl⟩
 have hF:decide (areW [] ∧ areJ J) = false :=decide_eq_false fun z => absurd z.1.1.1 (by decide)
 have k1:decide (1 ≤ (0:Int) ∧ (0:Int) ≤ 3) = false :=by decide
 rw [hB]
 have lJ :=qa0 J
 refine qan hE rfl (by repeat' first|exact trivial|assumption|exact qaf _|exact fun _ h => nomatch h|apply And.intro) (by repeat' first|exact trivial|assumption|exact qaf _|exact fun _ h => nomatch h|apply And.intro) fun S q pc hS hq hC hE => ?_
 conv => whnf
 refine qah hE hS ?_
 conv => whnf
 refine qaw hE hS (A :=Nat) [0,1] (fun i => [(6,nv i)]) (fun _ => []) (fun _ => []) (fun i => i ≤ J.length ∧ ∀ j,j < i → okJ (gL J j)) (fun i => J.length - i) 0 (kle rfl) rfl (zhg 0) ⟨Nat.zero_le _,fun _ h => absurd h (Nat.not_lt_zero _)⟩ ?_
 intro i ⟨hi,hjJ⟩ K hK
 obtain rfl:K = 0 :=hK
 conv => whnf
 by_cases hi2:i < J.length
 ·have g0 :=qbe J i hi2
  have g1 :=qbu J i hi2
  have g2 :=qbt J i hi2
  have bad:¬ okJ (gL J i) → decide (areW [] ∧ areJ J) = false :=fun z => decide_eq_false fun k => z (k.2.2 i hi2)
  have hi1:IntKind.i64.wrap (Int.ofNat i + 1) = Int.ofNat (i + 1) :=qa1 (m :=i + 1) (by omega)
  by_cases p0:(1 ≤ (gL J i).1 ∧ (gL J i).1 ≤ 40)
  ·have c0:(!decide (1 ≤ (gL J i).1 ∧ (gL J i).1 ≤ 40)) = false :=nt_t (decide_eq_true p0)
   by_cases p1:(0 ≤ (gL J i).2.1 ∧ (gL J i).2.1 ≤ 3)
   ·have c1:(!decide (0 ≤ (gL J i).2.1 ∧ (gL J i).2.1 ≤ 3)) = false :=nt_t (decide_eq_true p1)
    by_cases p2:(1 ≤ (gL J i).2.2 ∧ (gL J i).2.2 ≤ 60)
    ·have c2:(!decide (1 ≤ (gL J i).2.2 ∧ (gL J i).2.2 ≤ 60)) = false :=nt_t (decide_eq_true p2)
     try have z25:=qau hi2
     try have z26:=qal hi2
     repeat ((first|refine qae (nthP g0) ?_|refine qae (nthP g1) ?_|refine qae (nthP g2) ?_|refine qak ‹_› ?_|refine qaj ‹_› ?_|refine pkT ‹_› ?_|refine qaa ‹_› ?_|refine qap ‹_› ?_|refine qaq ‹_› ?_|refine pkF ‹_› ?_|refine qab ‹_› ?_|refine qak (gff ‹_›) ?_|refine qaj (gff ‹_›) ?_|refine pkT (gff ‹_›) ?_|refine qaa (gff ‹_›) ?_|refine qac hC (qax (gL J i).1 1 40) ?_|refine qac hC (qax (gL J i).2.1 0 3) ?_|refine qac hC (qax (gL J i).2.2 1 60) ?_|refine qad hS (by kernel_rfl) ?_);conv => whnf)
     exact ⟨i + 1,⟨hi2,fun j h => by
      by_cases e:j = i
      ·rw [e];exact ⟨p0,p1,p2⟩
      ·exact hjJ j (by omega)⟩,by omega,Nat.le_refl _,(zhg 0)⟩
    ·have c2:(!decide (1 ≤ (gL J i).2.2 ∧ (gL J i).2.2 ≤ 60)) = true :=nt_f (decide_eq_false p2)
     try have z27:=qau hi2
     try have z28:=qal hi2
     repeat ((first|refine qae (nthP g0) ?_|refine qae (nthP g1) ?_|refine qae (nthP g2) ?_|refine qak ‹_› ?_|refine qaj ‹_› ?_|refine pkT ‹_› ?_|refine qaa ‹_› ?_|refine qap ‹_› ?_|refine qaq ‹_› ?_|refine pkF ‹_› ?_|refine qab ‹_› ?_|refine qak (gff ‹_›) ?_|refine qaj (gff ‹_›) ?_|refine pkT (gff ‹_›) ?_|refine qaa (gff ‹_›) ?_|refine qap (gft ‹_›) ?_|refine qaq (gft ‹_›) ?_|refine pkF (gft ‹_›) ?_|refine qab (gft ‹_›) ?_|refine qac hC (qax (gL J i).1 1 40) ?_|refine qac hC (qax (gL J i).2.1 0 3) ?_|refine qac hC (qax (gL J i).2.2 1 60) ?_|refine qad hS (by kernel_rfl) ?_);conv => whnf)
     exact ⟨_,rfl,wkb ((bad (fun z => p2 z.2.2)).symm.trans hB)⟩
   ·have c1:(!decide (0 ≤ (gL J i).2.1 ∧ (gL J i).2.1 ≤ 3)) = true :=nt_f (decide_eq_false p1)
    try have z29:=qau hi2
    try have z30:=qal hi2
    repeat ((first|refine qae (nthP g0) ?_|refine qae (nthP g1) ?_|refine qae (nthP g2) ?_|refine qak ‹_› ?_|refine qaj ‹_› ?_|refine pkT ‹_› ?_|refine qaa ‹_› ?_|refine qap ‹_› ?_|refine qaq ‹_› ?_|refine pkF ‹_› ?_|refine qab ‹_› ?_|refine qak (gff ‹_›) ?_|refine qaj (gff ‹_›) ?_|refine pkT (gff ‹_›) ?_|refine qaa (gff ‹_›) ?_|refine qap (gft ‹_›) ?_|refine qaq (gft ‹_›) ?_|refine pkF (gft ‹_›) ?_|refine qab (gft ‹_›) ?_|refine qac hC (qax (gL J i).1 1 40) ?_|refine qac hC (qax (gL J i).2.1 0 3) ?_|refine qac hC (qax (gL J i).2.2 1 60) ?_|refine qad hS (by kernel_rfl) ?_);conv => whnf)
    exact ⟨_,rfl,wkb ((bad (fun z => p1 z.2.1)).symm.trans hB)⟩
  ·have c0:(!decide (1 ≤ (gL J i).1 ∧ (gL J i).1 ≤ 40)) = true :=nt_f (decide_eq_false p0)
   try have z31:=qau hi2
   try have z32:=qal hi2
   repeat ((first|refine qae (nthP g0) ?_|refine qae (nthP g1) ?_|refine qae (nthP g2) ?_|refine qak ‹_› ?_|refine qaj ‹_› ?_|refine pkT ‹_› ?_|refine qaa ‹_› ?_|refine qap ‹_› ?_|refine qaq ‹_› ?_|refine pkF ‹_› ?_|refine qab ‹_› ?_|refine qap (gft ‹_›) ?_|refine qaq (gft ‹_›) ?_|refine pkF (gft ‹_›) ?_|refine qab (gft ‹_›) ?_|refine qac hC (qax (gL J i).1 1 40) ?_|refine qac hC (qax (gL J i).2.1 0 3) ?_|refine qac hC (qax (gL J i).2.2 1 60) ?_|refine qad hS (by kernel_rfl) ?_);conv => whnf)
   exact ⟨_,rfl,wkb ((bad (fun z => p0 z.1)).symm.trans hB)⟩
 ·refine qab (qa6 hi2) ?_
  conv => whnf
  refine .inl ?_
  conv => whnf
  have haJ:∀ j,j < J.length → okJ (gL J j) :=fun j h => hjJ j (by omega)
  clear hi hi2 hjJ
  repeat ((first|refine qap k1 ?_|refine qaq k1 ?_|refine pkF k1 ?_|refine qab k1 ?_|refine qap (qa2 k1) ?_|refine qaq (qa2 k1) ?_|refine pkF (qa2 k1) ?_|refine qab (qa2 k1) ?_|refine qac hC (qax 0 1 3) ?_|refine qad hS (by kernel_rfl) ?_);conv => whnf)
  rw [← hB,hF]
  exact ⟨_,rfl,Wk.refl _⟩
theorem quz:Pure prog 26 [.nils,.nils] (.bool (decide (areW [] ∧ areJ []))) :=by
 rw [decide_eq_false (show ¬ (areW [] ∧ areJ []) from fun z => absurd z.1.1.1 (by decide))]
 have k1:decide (1 ≤ (0:Int) ∧ (0:Int) ≤ 3) = false :=by decide
 refine qan hE rfl (by repeat' first|exact trivial|assumption|exact qaf _|exact fun _ h => nomatch h|apply And.intro) (by repeat' first|exact trivial|assumption|exact qaf _|exact fun _ h => nomatch h|apply And.intro) fun S q pc hS hq hC hE => ?_
 conv => whnf
 refine qah hE hS ?_
 conv => whnf
 refine qah hE hS ?_
 conv => whnf
 repeat ((first|refine qap k1 ?_|refine qaq k1 ?_|refine pkF k1 ?_|refine qab k1 ?_|refine qap (qa2 k1) ?_|refine qaq (qa2 k1) ?_|refine pkF (qa2 k1) ?_|refine qab (qa2 k1) ?_|refine qac hC (qax 0 1 3) ?_|refine qad hS (by kernel_rfl) ?_);conv => whnf)
 exact ⟨_,rfl,Wk.refl _⟩
theorem qi4 {x y:AV} {W J:List LkI} (hx:LL x W) (hy:LL y J) (hw:W.length ≤ 5) (hj:J.length ≤ 8):Pure prog 26 [x,y] (.bool (decide (areW W ∧ areJ J))) :=by
 rcases hx with ⟨rfl,rfl⟩ | rfl <;> rcases hy with ⟨rfl,rfl⟩ | rfl
 ·exact quz
 ·exact qu0 hj
 ·exact qu1 hw
 ·exact qu2 hw hj
def ql3 (W J:List LkI) (P:List Int) (i:Nat):Prop :=(0 ≤ gi P i ∧ gi P i ≤ (W.length:Int) - 1) ∧ (gL J i).2.1 ≤ (gL W (gi P i).toNat).1
def isPl (W J:List LkI) (P:List Int):Prop :=P.length = J.length ∧ ∀ i,i < P.length → ql3 W J P i
instance (W J:List LkI) (P:List Int):Decidable (isPl W J P) :=Classical.propDecidable _
theorem qrs {W J:List LkI} {P:List Int} (hw:1 ≤ W.length ∧ W.length ≤ 3) (hp:P.length ≤ 8):Pure prog 27 [lkA W,lkA J,nl P] (.bool (decide (isPl W J P))) :=by
 obtain ⟨B,hB⟩ : ∃ B,decide (isPl W J P) = B :=⟨_,rfl⟩
 rw [hB]
 have lW :=qa0 W
 have lJ :=qa0 J
 have lP :=qat P
 by_cases hl:P.length = J.length
 ·have c0:((P.length:Int) != (J.length:Int)) = false :=by rw [hl];exact bne_self_eq_false _
  have hwr:IntKind.i64.wrap ((W.length:Int) - 1) = (W.length:Int) - 1 :=qd7 (by omega) (by omega)
  refine qan hE rfl (by repeat' first|exact trivial|assumption|exact qaf _|exact fun _ h => nomatch h|apply And.intro) (by repeat' first|exact trivial|assumption|exact qaf _|exact fun _ h => nomatch h|apply And.intro) fun S q pc hS hq hC hE => ?_
  conv => whnf
  repeat ((first|refine qap c0 ?_|refine qaq c0 ?_|refine pkF c0 ?_|refine qab c0 ?_|refine qad hS (by kernel_rfl) ?_);conv => whnf)
  refine qaw hE hS (A :=Nat) [0,1,2] (fun i => [(7,nv i)]) (fun _ => []) (fun _ => []) (fun i => i ≤ P.length ∧ ∀ j,j < i → ql3 W J P j) (fun i => P.length - i) 0 (kle rfl) rfl (zhg 0) ⟨Nat.zero_le _,fun _ h => absurd h (Nat.not_lt_zero _)⟩ ?_
  intro i ⟨hi,hj⟩ K hK
  obtain rfl:K = 0 :=hK
  conv => whnf
  by_cases hi2:i < P.length
  ·have hi1:IntKind.i64.wrap (Int.ofNat i + 1) = Int.ofNat (i + 1) :=qa1 (m :=i + 1) (by omega)
   have hiJ:i < J.length :=by omega
   have gp :=qa8 (l :=P) (i :=i) hi2
   have g1 :=qbu J i hiJ
   have bad:¬ ql3 W J P i → decide (isPl W J P) = false :=fun z => decide_eq_false fun k => z (k.2 i hi2)
   by_cases q0:0 ≤ gi P i ∧ gi P i ≤ (W.length:Int) - 1
   ·have c1:(!decide (0 ≤ gi P i ∧ gi P i ≤ IntKind.i64.wrap ((W.length:Int) - 1))) = false :=nt_t (decide_eq_true (by rw [hwr];exact q0))
    have hpw:(gi P i).toNat < W.length :=by omega
    have iw:inR (gi P i) W.length = true :=by
     rw [show gi P i = Int.ofNat (gi P i).toNat from (Int.toNat_of_nonneg q0.1).symm]
     exact qal hpw
    have gw :=qbe W (gi P i).toNat hpw
    by_cases q1:(gL W (gi P i).toNat).1 < (gL J i).2.1
    ·have c2:decide ((gL W (gi P i).toNat).1 < (gL J i).2.1) = true :=decide_eq_true q1
     try have z33:=qau hi2
     try have z34:=qal hi2
     try have z35:=qal hiJ
     repeat ((first|refine qae (nthP gp) ?_|refine qae (nthP g1) ?_|refine qae (nthP gw) ?_|refine qak ‹_› ?_|refine qaj ‹_› ?_|refine pkT ‹_› ?_|refine qaa ‹_› ?_|refine qap ‹_› ?_|refine qaq ‹_› ?_|refine pkF ‹_› ?_|refine qab ‹_› ?_|refine qak (gff ‹_›) ?_|refine qaj (gff ‹_›) ?_|refine pkT (gff ‹_›) ?_|refine qaa (gff ‹_›) ?_|refine qac hC (qax (gi P i) 0 (IntKind.i64.wrap ((W.length:Int) - 1))) ?_|refine qad hS (by kernel_rfl) ?_);conv => whnf)
     exact ⟨_,rfl,wkb ((bad (fun z => by have :=z.2;omega)).symm.trans hB)⟩
    ·have c2:decide ((gL W (gi P i).toNat).1 < (gL J i).2.1) = false :=decide_eq_false q1
     try have z36:=qau hi2
     try have z37:=qal hi2
     try have z38:=qal hiJ
     repeat ((first|refine qae (nthP gp) ?_|refine qae (nthP g1) ?_|refine qae (nthP gw) ?_|refine qak ‹_› ?_|refine qaj ‹_› ?_|refine pkT ‹_› ?_|refine qaa ‹_› ?_|refine qap ‹_› ?_|refine qaq ‹_› ?_|refine pkF ‹_› ?_|refine qab ‹_› ?_|refine qak (gff ‹_›) ?_|refine qaj (gff ‹_›) ?_|refine pkT (gff ‹_›) ?_|refine qaa (gff ‹_›) ?_|refine qac hC (qax (gi P i) 0 (IntKind.i64.wrap ((W.length:Int) - 1))) ?_|refine qad hS (by kernel_rfl) ?_);conv => whnf)
     exact ⟨i + 1,⟨hi2,fun j h => by
      by_cases e:j = i
      ·rw [e];exact ⟨q0,by omega⟩
      ·exact hj j (by omega)⟩,by omega,Nat.le_refl _,(zhg 0)⟩
   ·have c1:(!decide (0 ≤ gi P i ∧ gi P i ≤ IntKind.i64.wrap ((W.length:Int) - 1))) = true :=nt_f (decide_eq_false (by rw [hwr];exact q0))
    try have z39:=qau hi2
    try have z40:=qal hi2
    repeat ((first|refine qae (nthP gp) ?_|refine qak ‹_› ?_|refine qaj ‹_› ?_|refine pkT ‹_› ?_|refine qaa ‹_› ?_|refine qap ‹_› ?_|refine qaq ‹_› ?_|refine pkF ‹_› ?_|refine qab ‹_› ?_|refine qap (gft ‹_›) ?_|refine qaq (gft ‹_›) ?_|refine pkF (gft ‹_›) ?_|refine qab (gft ‹_›) ?_|refine qac hC (qax (gi P i) 0 (IntKind.i64.wrap ((W.length:Int) - 1))) ?_|refine qad hS (by kernel_rfl) ?_);conv => whnf)
    exact ⟨_,rfl,wkb ((bad (fun z => q0 z.1)).symm.trans hB)⟩
  ·refine qab (qa6 hi2) ?_
   conv => whnf
   refine .inl ?_
   conv => whnf
   exact ⟨_,rfl,wkb ((decide_eq_true (show isPl W J P from ⟨hl,fun j h => hj j (by omega)⟩)).symm.trans hB)⟩
 ·have c0:((P.length:Int) != (J.length:Int)) = true :=bne_iff_ne.2 fun z => hl (Int.ofNat.inj z)
  rw [← hB,decide_eq_false (show ¬ isPl W J P from fun z => hl z.1)]
  refine qan hE rfl (by repeat' first|exact trivial|assumption|exact qaf _|exact fun _ h => nomatch h|apply And.intro) (by repeat' first|exact trivial|assumption|exact qaf _|exact fun _ h => nomatch h|apply And.intro) fun S q pc hS hq hC hE => ?_
  conv => whnf
  repeat ((first|refine qak c0 ?_|refine qaj c0 ?_|refine pkT c0 ?_|refine qaa c0 ?_|refine qad hS (by kernel_rfl) ?_);conv => whnf)
  exact ⟨_,rfl,Wk.refl _⟩
def wgJ (W J:List LkI) (P:List Int):Nat → Int
 | 0 => 0
 |i + 1 => wgJ W J P i + (gL J i).1 * (gL W (gi P i).toNat).2.2
theorem qlh {W J:List LkI} {P:List Int} (hW:areW W) (hJ:areJ J) (h:isPl W J P):∀ i,i ≤ P.length → 0 ≤ wgJ W J P i ∧ wgJ W J P i ≤ (i:Int) * 4000
 | 0,_ => ⟨Int.le_refl _,by simp [wgJ]⟩
 |i + 1,hi => by
  have ih :=qlh hW hJ h i (by omega)
  have hp :=(h.2 i hi).1
  have hj :=(hJ.2 i (by have :=h.1;omega)).1
  have hw :=(hW.2 (gi P i).toNat (by omega)).2.2
  have m1 :=Int.mul_nonneg (show 0 ≤ (gL J i).1 by omega) hw.1
  have m2 :=Int.mul_le_mul hj.2 hw.2 hw.1 (by decide)
  rw [wgJ]
  omega
theorem qhx {W J:List LkI} {P:List Int} (hW:areW W) (hJ:areJ J) (h:isPl W J P):Pure prog 29 [lkA W,lkA J,nl P] (iv (wgJ W J P P.length)) :=by
 have lW :=qa0 W
 have lJ :=qa0 J
 have lP :=qat P
 have hl :=h.1
 have hJ6 :=hJ.1.2
 refine qan hE rfl (by repeat' first|exact trivial|assumption|exact qaf _|exact fun _ h => nomatch h|apply And.intro) (by repeat' first|exact trivial|assumption|exact qaf _|exact fun _ h => nomatch h|apply And.intro) fun S q pc hS hq hC hE => ?_
 conv => whnf
 refine qaw hE hS (A :=Nat) [0,1,2] (fun i => [(7,iv (wgJ W J P i)),(8,nv i)]) (fun _ => []) (fun _ => []) (fun i => i ≤ P.length) (fun i => P.length - i) 0 (kle rfl) rfl (zhg 0) (Nat.zero_le _) ?_
 intro i hi K hK
 obtain rfl:K = 0 :=hK
 conv => whnf
 by_cases hi2:i < P.length
 ·have hi1:IntKind.i64.wrap (Int.ofNat i + 1) = Int.ofNat (i + 1) :=qa1 (m :=i + 1) (by omega)
  have hiJ:i < J.length :=by omega
  have hp :=(h.2 i hi2).1
  have hpw:(gi P i).toNat < W.length :=by omega
  have iw:inR (gi P i) W.length = true :=by
   rw [show gi P i = Int.ofNat (gi P i).toNat from (Int.toNat_of_nonneg hp.1).symm]
   exact qal hpw
  have gp :=qa8 (l :=P) (i :=i) hi2
  have g0 :=qbe J i hiJ
  have gw :=qbt W (gi P i).toNat hpw
  have b1 :=qlh hW hJ h i hi
  have b2 :=qlh hW hJ h (i + 1) hi2
  have hw:IntKind.i64.wrap (wgJ W J P i + IntKind.i64.wrap ((gL J i).1 * (gL W (gi P i).toNat).2.2)) = wgJ W J P (i + 1) :=by
   rw [wgJ] at b2 ⊢
   rw [show IntKind.i64.wrap ((gL J i).1 * (gL W (gi P i).toNat).2.2) = (gL J i).1 * (gL W (gi P i).toNat).2.2 from qd7 (by omega) (by omega)]
   exact qd7 (by omega) (by omega)
  try have z41:=qau hi2
  try have z42:=qal hi2
  try have z43:=qal hiJ
  repeat ((first|refine qae (nthP gp) ?_|refine qae (nthP g0) ?_|refine qae (nthP gw) ?_|refine qak ‹_› ?_|refine qaj ‹_› ?_|refine pkT ‹_› ?_|refine qaa ‹_› ?_|refine qap ‹_› ?_|refine qaq ‹_› ?_|refine pkF ‹_› ?_|refine qab ‹_› ?_|refine qad hS (by kernel_rfl) ?_);conv => whnf)
  exact ⟨i + 1,hi2,by omega,Nat.le_refl _,(zhg 0)⟩
 ·refine qab (qa6 hi2) ?_
  conv => whnf
  refine .inl ?_
  conv => whnf
  have ei:i = P.length :=by omega
  rw [← ei]
  exact ⟨_,rfl,Wk.refl _⟩
def bfrJ (J:List LkI) (i k:Nat):Prop :=(gL J k).2.2 < (gL J i).2.2 ∨ (gL J k).2.2 = (gL J i).2.2 ∧ k ≤ i
instance (J:List LkI) (i k:Nat):Decidable (bfrJ J i k) :=inferInstanceAs (Decidable (_ ∨ _ ∧ _))
def hrN (J:List LkI) (P:List Int) (i:Nat):Nat → Nat
 | 0 => 0
 |k + 1 => hrN J P i k + if gi P k = gi P i ∧ bfrJ J i k then (gL J k).1.toNat else 0
def dyN (W J:List LkI) (P:List Int) (i:Nat):Nat :=(hrN J P i J.length + (gL W (gi P i).toNat).2.1.toNat - 1) / (gL W (gi P i).toNat).2.1.toNat
def dnT (W J:List LkI) (P:List Int) (i:Nat):List Int :=(List.range i).map fun j => Int.ofNat (dyN W J P j)
abbrev dnL (W J:List LkI) (P:List Int):List Int :=dnT W J P J.length
theorem qdx (W J:List LkI) (P:List Int) (i:Nat):(dnT W J P i).length = i :=by unfold dnT;rw [List.length_map,List.length_range]
theorem qk8 (W J:List LkI) (P:List Int) (i:Nat):dnT W J P (i + 1) = dnT W J P i ++ [Int.ofNat (dyN W J P i)] :=by
 unfold dnT
 rw [List.range_succ,List.map_append];rfl
theorem qg5 {J:List LkI} (hJ:areJ J) (P:List Int) (i:Nat):∀ k,k ≤ J.length → hrN J P i k ≤ k * 40
 | 0,_ => Nat.le_refl _
 |k + 1,h => by
  have ih :=qg5 hJ P i k (by omega)
  have :=(hJ.2 k h).1
  rw [hrN]
  split <;> omega
theorem qqc {W J:List LkI} {P:List Int} (hW:areW W) (hJ:areJ J) (h:isPl W J P):Pure prog 28 [lkA W,lkA J,nl P] (nl (dnL W J P)) :=by
 have lW :=qa0 W
 have lJ :=qa0 J
 have lP :=qat P
 have lD :=qat (dnL W J P)
 have hJ6 :=hJ.1
 have hW3 :=hW.1
 refine qan hE rfl (by repeat' first|exact trivial|assumption|exact qaf _|exact fun _ h => nomatch h|apply And.intro) (by repeat' first|exact trivial|assumption|exact qaf _|exact fun _ h => nomatch h|apply And.intro) fun S q pc hS hq hC hE => ?_
 conv => whnf
 refine qaw hE hS (A :=Nat × AV × List AObj) [0,1,2] (fun (i,v,_) => [(7,v),(8,nv i)]) (fun _ => []) (fun a => a.2.2) (fun (i,v,ux) => i ≤ J.length ∧ (i = 0 ∧ v = .nils ∧ ux = [] ∨ 1 ≤ i ∧ v = .lst (ivs (dnT W J P i)) (dnT W J P i).length (.ch 0) ∧ ux = [.chain (dnT W J P i).length 1 3])) (fun (i,_,_) => J.length - i) (0,.nils,[]) (kle rfl) rfl (zhg 0) ⟨Nat.zero_le _,.inl ⟨rfl,rfl,rfl⟩⟩ ?_
 rintro ⟨i,v,ux⟩ ⟨hi,⟨i0,rfl,rfl⟩ | ⟨i0,rfl,rfl⟩⟩ N hN
 ·obtain rfl:N = 0 :=hN
  conv => whnf
  have hi2:i < J.length :=by omega
  have hiP:i < P.length :=by rw [h.1];exact hi2
  have hpr :=(h.2 i hiP).1
  have hpw:(gi P i).toNat < W.length :=by omega
  have iw:inR (gi P i) W.length = true :=by
   rw [show gi P i = Int.ofNat (gi P i).toNat from (Int.toNat_of_nonneg hpr.1).symm]
   exact qal hpw
  have hPJ :=h.1
  have hi1:IntKind.i64.wrap (Int.ofNat i + 1) = Int.ofNat (i + 1) :=qa1 (m :=i + 1) (by omega)
  refine qaa (qau hi2) ?_
  conv => whnf
  refine qaw hE hS (A :=Nat) [0,1,2,7,8] (fun k => [(9,nv (hrN J P i k)),(10,nv k)]) (fun _ => []) (fun _ => []) (fun k => k ≤ J.length) (fun k => J.length - k) 0 (kle rfl) rfl (zhg 0) (Nat.zero_le _) ?_
  intro k hk Q hQ
  obtain rfl:Q = 0 :=hQ
  conv => whnf
  by_cases hk2:k < J.length
  ·have hkP:k < P.length :=by omega
   have hk1:IntKind.i64.wrap (Int.ofNat k + 1) = Int.ofNat (k + 1) :=qa1 (m :=k + 1) (by omega)
   have gk2 :=qbt J k hk2
   have gi2 :=qbt J i hi2
   have gk0 :=qbe J k hk2
   have pk :=qa8 (l :=P) (i :=k) hkP
   have pi :=qa8 (l :=P) (i :=i) hiP
   have hle :=qg5 hJ P i k hk
   have hle2 :=qg5 hJ P i (k + 1) hk2
   have hkj :=(hJ.2 k hk2).1
   have hd:hrN J P i (k + 1) = hrN J P i k + if gi P k = gi P i ∧ bfrJ J i k then (gL J k).1.toNat else 0 :=rfl
   by_cases q1:(gL J k).2.2 < (gL J i).2.2
   ·have c1:decide ((gL J k).2.2 < (gL J i).2.2) = true :=decide_eq_true q1
    by_cases q0:gi P k = gi P i
    ·have c0:(gi P k == gi P i) = true :=beq_iff_eq.2 q0
     rw [if_pos ⟨q0,.inl q1⟩] at hd
     try have z44:=qau hk2
     try have z45:=qal hk2
     try have z46:=qal hi2
     try have z47:=qal hkP
     try have z48:=qal hiP
     repeat ((first|refine qae (nthP gk2) ?_|refine qae (nthP gi2) ?_|refine qae (nthP pk) ?_|refine qae (nthP pi) ?_|refine qae (nthP gk0) ?_|refine qak ‹_› ?_|refine qaj ‹_› ?_|refine pkT ‹_› ?_|refine qaa ‹_› ?_|refine qap ‹_› ?_|refine qaq ‹_› ?_|refine pkF ‹_› ?_|refine qab ‹_› ?_|refine qap (gft ‹_›) ?_|refine qaq (gft ‹_›) ?_|refine pkF (gft ‹_›) ?_|refine qab (gft ‹_›) ?_|refine qak (qar ‹_›) ?_|refine qaj (qar ‹_›) ?_|refine pkT (qar ‹_›) ?_|refine qaa (qar ‹_›) ?_|refine qad hS (by kernel_rfl) ?_);conv => whnf)
     have hw:IntKind.i64.wrap (Int.ofNat (hrN J P i k) + (gL J k).1) = Int.ofNat (hrN J P i (k + 1)) :=by
      rw [hd,show Int.ofNat (hrN J P i k) + (gL J k).1 = Int.ofNat (hrN J P i k + (gL J k).1.toNat) by show (hrN J P i k:Int) + _ = ((hrN J P i k + (gL J k).1.toNat:Nat):Int);omega]
      exact qa1 (by omega)
     exact ⟨k + 1,hk2,by omega,Nat.le_refl _,(zhg 0)⟩
    ·have c0:(gi P k == gi P i) = false :=beq_eq_false_iff_ne.2 q0
     rw [if_neg fun z => q0 z.1] at hd
     try have z49:=qau hk2
     try have z50:=qal hk2
     try have z51:=qal hi2
     try have z52:=qal hkP
     try have z53:=qal hiP
     repeat ((first|refine qae (nthP gk2) ?_|refine qae (nthP gi2) ?_|refine qae (nthP pk) ?_|refine qae (nthP pi) ?_|refine qae (nthP gk0) ?_|refine qak ‹_› ?_|refine qaj ‹_› ?_|refine pkT ‹_› ?_|refine qaa ‹_› ?_|refine qap ‹_› ?_|refine qaq ‹_› ?_|refine pkF ‹_› ?_|refine qab ‹_› ?_|refine qap (gft ‹_›) ?_|refine qaq (gft ‹_›) ?_|refine pkF (gft ‹_›) ?_|refine qab (gft ‹_›) ?_|refine qap (qa2 ‹_›) ?_|refine qaq (qa2 ‹_›) ?_|refine pkF (qa2 ‹_›) ?_|refine qab (qa2 ‹_›) ?_|refine qad hS (by kernel_rfl) ?_);conv => whnf)
     have hw:Int.ofNat (hrN J P i k) = Int.ofNat (hrN J P i (k + 1)) :=by rw [hd];rfl
     exact ⟨k + 1,hk2,by omega,Nat.le_refl _,(zhg 0)⟩
   ·have c1:decide ((gL J k).2.2 < (gL J i).2.2) = false :=decide_eq_false q1
    by_cases q2:(gL J k).2.2 = (gL J i).2.2
    ·have c2:((gL J k).2.2 == (gL J i).2.2) = true :=beq_iff_eq.2 q2
     by_cases q3:k ≤ i
     ·have c3:decide (Int.ofNat k ≤ Int.ofNat i) = true :=decide_eq_true (Int.ofNat_le.2 q3)
      by_cases q0:gi P k = gi P i
      ·have c0:(gi P k == gi P i) = true :=beq_iff_eq.2 q0
       rw [if_pos ⟨q0,.inr ⟨q2,q3⟩⟩] at hd
       try have z54:=qau hk2
       try have z55:=qal hk2
       try have z56:=qal hi2
       try have z57:=qal hkP
       try have z58:=qal hiP
       repeat ((first|refine qae (nthP gk2) ?_|refine qae (nthP gi2) ?_|refine qae (nthP pk) ?_|refine qae (nthP pi) ?_|refine qae (nthP gk0) ?_|refine qak ‹_› ?_|refine qaj ‹_› ?_|refine pkT ‹_› ?_|refine qaa ‹_› ?_|refine qap ‹_› ?_|refine qaq ‹_› ?_|refine pkF ‹_› ?_|refine qab ‹_› ?_|refine qak (gff ‹_›) ?_|refine qaj (gff ‹_›) ?_|refine pkT (gff ‹_›) ?_|refine qaa (gff ‹_›) ?_|refine qak (qar ‹_›) ?_|refine qaj (qar ‹_›) ?_|refine pkT (qar ‹_›) ?_|refine qaa (qar ‹_›) ?_|refine qad hS (by kernel_rfl) ?_);conv => whnf)
       have hw:IntKind.i64.wrap (Int.ofNat (hrN J P i k) + (gL J k).1) = Int.ofNat (hrN J P i (k + 1)) :=by
        rw [hd,show Int.ofNat (hrN J P i k) + (gL J k).1 = Int.ofNat (hrN J P i k + (gL J k).1.toNat) by show (hrN J P i k:Int) + _ = ((hrN J P i k + (gL J k).1.toNat:Nat):Int);omega]
        exact qa1 (by omega)
       exact ⟨k + 1,hk2,by omega,Nat.le_refl _,(zhg 0)⟩
      ·have c0:(gi P k == gi P i) = false :=beq_eq_false_iff_ne.2 q0
       rw [if_neg fun z => q0 z.1] at hd
       try have z59:=qau hk2
       try have z60:=qal hk2
       try have z61:=qal hi2
       try have z62:=qal hkP
       try have z63:=qal hiP
       repeat ((first|refine qae (nthP gk2) ?_|refine qae (nthP gi2) ?_|refine qae (nthP pk) ?_|refine qae (nthP pi) ?_|refine qae (nthP gk0) ?_|refine qak ‹_› ?_|refine qaj ‹_› ?_|refine pkT ‹_› ?_|refine qaa ‹_› ?_|refine qap ‹_› ?_|refine qaq ‹_› ?_|refine pkF ‹_› ?_|refine qab ‹_› ?_|refine qak (gff ‹_›) ?_|refine qaj (gff ‹_›) ?_|refine pkT (gff ‹_›) ?_|refine qaa (gff ‹_›) ?_|refine qak (qar ‹_›) ?_|refine qaj (qar ‹_›) ?_|refine pkT (qar ‹_›) ?_|refine qaa (qar ‹_›) ?_|refine qap (qa2 ‹_›) ?_|refine qaq (qa2 ‹_›) ?_|refine pkF (qa2 ‹_›) ?_|refine qab (qa2 ‹_›) ?_|refine qad hS (by kernel_rfl) ?_);conv => whnf)
       have hw:Int.ofNat (hrN J P i k) = Int.ofNat (hrN J P i (k + 1)) :=by rw [hd];rfl
       exact ⟨k + 1,hk2,by omega,Nat.le_refl _,(zhg 0)⟩
     ·have c3:decide (Int.ofNat k ≤ Int.ofNat i) = false :=decide_eq_false fun z => q3 (Int.ofNat_le.1 z)
      by_cases q0:gi P k = gi P i
      ·have c0:(gi P k == gi P i) = true :=beq_iff_eq.2 q0
       rw [if_neg fun z => by have :=z.2;unfold bfrJ at this;omega] at hd
       try have z64:=qau hk2
       try have z65:=qal hk2
       try have z66:=qal hi2
       try have z67:=qal hkP
       try have z68:=qal hiP
       repeat ((first|refine qae (nthP gk2) ?_|refine qae (nthP gi2) ?_|refine qae (nthP pk) ?_|refine qae (nthP pi) ?_|refine qae (nthP gk0) ?_|refine qak ‹_› ?_|refine qaj ‹_› ?_|refine pkT ‹_› ?_|refine qaa ‹_› ?_|refine qap ‹_› ?_|refine qaq ‹_› ?_|refine pkF ‹_› ?_|refine qab ‹_› ?_|refine qak (gff ‹_›) ?_|refine qaj (gff ‹_›) ?_|refine pkT (gff ‹_›) ?_|refine qaa (gff ‹_›) ?_|refine qak (qar ‹_›) ?_|refine qaj (qar ‹_›) ?_|refine pkT (qar ‹_›) ?_|refine qaa (qar ‹_›) ?_|refine qad hS (by kernel_rfl) ?_);conv => whnf)
       have hw:Int.ofNat (hrN J P i k) = Int.ofNat (hrN J P i (k + 1)) :=by rw [hd];rfl
       exact ⟨k + 1,hk2,by omega,Nat.le_refl _,(zhg 0)⟩
      ·have c0:(gi P k == gi P i) = false :=beq_eq_false_iff_ne.2 q0
       rw [if_neg fun z => q0 z.1] at hd
       try have z69:=qau hk2
       try have z70:=qal hk2
       try have z71:=qal hi2
       try have z72:=qal hkP
       try have z73:=qal hiP
       repeat ((first|refine qae (nthP gk2) ?_|refine qae (nthP gi2) ?_|refine qae (nthP pk) ?_|refine qae (nthP pi) ?_|refine qae (nthP gk0) ?_|refine qak ‹_› ?_|refine qaj ‹_› ?_|refine pkT ‹_› ?_|refine qaa ‹_› ?_|refine qap ‹_› ?_|refine qaq ‹_› ?_|refine pkF ‹_› ?_|refine qab ‹_› ?_|refine qak (gff ‹_›) ?_|refine qaj (gff ‹_›) ?_|refine pkT (gff ‹_›) ?_|refine qaa (gff ‹_›) ?_|refine qak (qar ‹_›) ?_|refine qaj (qar ‹_›) ?_|refine pkT (qar ‹_›) ?_|refine qaa (qar ‹_›) ?_|refine qap (qa2 ‹_›) ?_|refine qaq (qa2 ‹_›) ?_|refine pkF (qa2 ‹_›) ?_|refine qab (qa2 ‹_›) ?_|refine qad hS (by kernel_rfl) ?_);conv => whnf)
       have hw:Int.ofNat (hrN J P i k) = Int.ofNat (hrN J P i (k + 1)) :=by rw [hd];rfl
       exact ⟨k + 1,hk2,by omega,Nat.le_refl _,(zhg 0)⟩
    ·have c2:((gL J k).2.2 == (gL J i).2.2) = false :=beq_eq_false_iff_ne.2 q2
     by_cases q0:gi P k = gi P i
     ·have c0:(gi P k == gi P i) = true :=beq_iff_eq.2 q0
      rw [if_neg fun z => by have :=z.2;unfold bfrJ at this;omega] at hd
      try have z74:=qau hk2
      try have z75:=qal hk2
      try have z76:=qal hi2
      try have z77:=qal hkP
      try have z78:=qal hiP
      repeat ((first|refine qae (nthP gk2) ?_|refine qae (nthP gi2) ?_|refine qae (nthP pk) ?_|refine qae (nthP pi) ?_|refine qae (nthP gk0) ?_|refine qak ‹_› ?_|refine qaj ‹_› ?_|refine pkT ‹_› ?_|refine qaa ‹_› ?_|refine qap ‹_› ?_|refine qaq ‹_› ?_|refine pkF ‹_› ?_|refine qab ‹_› ?_|refine qak (gff ‹_›) ?_|refine qaj (gff ‹_›) ?_|refine pkT (gff ‹_›) ?_|refine qaa (gff ‹_›) ?_|refine qap (qa2 ‹_›) ?_|refine qaq (qa2 ‹_›) ?_|refine pkF (qa2 ‹_›) ?_|refine qab (qa2 ‹_›) ?_|refine qak (qar ‹_›) ?_|refine qaj (qar ‹_›) ?_|refine pkT (qar ‹_›) ?_|refine qaa (qar ‹_›) ?_|refine qad hS (by kernel_rfl) ?_);conv => whnf)
      have hw:Int.ofNat (hrN J P i k) = Int.ofNat (hrN J P i (k + 1)) :=by rw [hd];rfl
      exact ⟨k + 1,hk2,by omega,Nat.le_refl _,(zhg 0)⟩
     ·have c0:(gi P k == gi P i) = false :=beq_eq_false_iff_ne.2 q0
      rw [if_neg fun z => q0 z.1] at hd
      try have z79:=qau hk2
      try have z80:=qal hk2
      try have z81:=qal hi2
      try have z82:=qal hkP
      try have z83:=qal hiP
      repeat ((first|refine qae (nthP gk2) ?_|refine qae (nthP gi2) ?_|refine qae (nthP pk) ?_|refine qae (nthP pi) ?_|refine qae (nthP gk0) ?_|refine qak ‹_› ?_|refine qaj ‹_› ?_|refine pkT ‹_› ?_|refine qaa ‹_› ?_|refine qap ‹_› ?_|refine qaq ‹_› ?_|refine pkF ‹_› ?_|refine qab ‹_› ?_|refine qak (gff ‹_›) ?_|refine qaj (gff ‹_›) ?_|refine pkT (gff ‹_›) ?_|refine qaa (gff ‹_›) ?_|refine qap (qa2 ‹_›) ?_|refine qaq (qa2 ‹_›) ?_|refine pkF (qa2 ‹_›) ?_|refine qab (qa2 ‹_›) ?_|refine qad hS (by kernel_rfl) ?_);conv => whnf)
      have hw:Int.ofNat (hrN J P i k) = Int.ofNat (hrN J P i (k + 1)) :=by rw [hd];rfl
      exact ⟨k + 1,hk2,by omega,Nat.le_refl _,(zhg 0)⟩
  ·refine qab (qa6 hk2) ?_
   conv => whnf
   refine .inl ?_
   conv => whnf
   have ek:k = J.length :=by omega
   have hwk :=(hW.2 (gi P i).toNat hpw).2.1
   have hle :=qg5 hJ P i J.length (Nat.le_refl _)
   have gp :=qa8 (l :=P) (i :=i) hiP
   have gw :=qbu W (gi P i).toNat hpw
   have hdn:(gL W (gi P i).toNat).2.1 = Int.ofNat (gL W (gi P i).toNat).2.1.toNat :=(Int.toNat_of_nonneg (by omega)).symm
   have c9:(!((gL W (gi P i).toNat).2.1 == 0)) = true :=nt_f (beq_eq_false_iff_ne.2 (by omega))
   have hq:IntKind.i64.wrap ((IntKind.i64.wrap (IntKind.i64.wrap (Int.ofNat (hrN J P i k) + (gL W (gi P i).toNat).2.1) - 1)).tdiv (gL W (gi P i).toNat).2.1) = Int.ofNat (dyN W J P i) :=by
    rw [ek]
    have h1:1 ≤ (gL W (gi P i).toNat).2.1.toNat :=by omega
    have h2:(gL W (gi P i).toNat).2.1.toNat ≤ 12 :=by omega
    unfold dyN
    rw [hdn]
    generalize (gL W (gi P i).toNat).2.1.toNat = d at h1 h2
    rw [show Int.ofNat (hrN J P i J.length) + Int.ofNat d = Int.ofNat (hrN J P i J.length + d) from rfl,qa1 (by omega),show Int.ofNat (hrN J P i J.length + d) - 1 = Int.ofNat (hrN J P i J.length + d - 1) by show ((hrN J P i J.length + d:Nat):Int) - 1 = ((hrN J P i J.length + d - 1:Nat):Int);omega,qa1 (by omega)]
    show IntKind.i64.wrap ((Int.ofNat (hrN J P i J.length + d - 1)).tdiv (Int.ofNat d)) = Int.ofNat ((hrN J P i J.length + Int.toNat (Int.ofNat d) - 1) / Int.toNat (Int.ofNat d))
    exact quoN (by omega)
   have e1:AV.lst [iv (IntKind.i64.wrap ((IntKind.i64.wrap (IntKind.i64.wrap (Int.ofNat (hrN J P i k) + (gL W (gi P i).toNat).2.1) - 1)).tdiv (gL W (gi P i).toNat).2.1))] (0 + 1) (.ch 0) = .lst (ivs (dnT W J P (i + 1))) (dnT W J P (i + 1)).length (.ch 0) :=by
    rw [hq,qk8,i0];rfl
   have e2:AObj.chain (0 + 1) 1 3 = .chain (dnT W J P (i + 1)).length 1 3 :=by rw [qdx,i0]
   try have z84:=qal hiP
   repeat ((first|refine qae (nthP gp) ?_|refine qae (nthP gw) ?_|refine qak ‹_› ?_|refine qaj ‹_› ?_|refine pkT ‹_› ?_|refine qaa ‹_› ?_|refine qad hS (by kernel_rfl) ?_);conv => whnf)
   exact ⟨(i + 1,.lst (ivs (dnT W J P (i + 1))) (dnT W J P (i + 1)).length (.ch 0),[.chain (dnT W J P (i + 1)).length 1 3]),⟨hi2,.inr ⟨by omega,rfl,rfl⟩⟩,by show J.length - (i + 1) < J.length - i;omega,Nat.zero_le _,(zhg 1)⟩
 ·obtain rfl:N = 1 :=hN
  conv => whnf
  by_cases hi2:i < J.length
  ·have hiP:i < P.length :=by rw [h.1];exact hi2
   have hpr :=(h.2 i hiP).1
   have hpw:(gi P i).toNat < W.length :=by omega
   have iw:inR (gi P i) W.length = true :=by
    rw [show gi P i = Int.ofNat (gi P i).toNat from (Int.toNat_of_nonneg hpr.1).symm]
    exact qal hpw
   have hPJ :=h.1
   have hi1:IntKind.i64.wrap (Int.ofNat i + 1) = Int.ofNat (i + 1) :=qa1 (m :=i + 1) (by omega)
   refine qaa (qau hi2) ?_
   conv => whnf
   refine qaw hE hS (A :=Nat) [0,1,2,7,8] (fun k => [(9,nv (hrN J P i k)),(10,nv k)]) (fun _ => []) (fun _ => []) (fun k => k ≤ J.length) (fun k => J.length - k) 0 (kle rfl) rfl (zhg 1) (Nat.zero_le _) ?_
   intro k hk Q hQ
   obtain rfl:Q = 1 :=hQ
   conv => whnf
   by_cases hk2:k < J.length
   ·have hkP:k < P.length :=by omega
    have hk1:IntKind.i64.wrap (Int.ofNat k + 1) = Int.ofNat (k + 1) :=qa1 (m :=k + 1) (by omega)
    have gk2 :=qbt J k hk2
    have gi2 :=qbt J i hi2
    have gk0 :=qbe J k hk2
    have pk :=qa8 (l :=P) (i :=k) hkP
    have pi :=qa8 (l :=P) (i :=i) hiP
    have hle :=qg5 hJ P i k hk
    have hle2 :=qg5 hJ P i (k + 1) hk2
    have hkj :=(hJ.2 k hk2).1
    have hd:hrN J P i (k + 1) = hrN J P i k + if gi P k = gi P i ∧ bfrJ J i k then (gL J k).1.toNat else 0 :=rfl
    by_cases q1:(gL J k).2.2 < (gL J i).2.2
    ·have c1:decide ((gL J k).2.2 < (gL J i).2.2) = true :=decide_eq_true q1
     by_cases q0:gi P k = gi P i
     ·have c0:(gi P k == gi P i) = true :=beq_iff_eq.2 q0
      rw [if_pos ⟨q0,.inl q1⟩] at hd
      try have z85:=qau hk2
      try have z86:=qal hk2
      try have z87:=qal hi2
      try have z88:=qal hkP
      try have z89:=qal hiP
      repeat ((first|refine qae (nthP gk2) ?_|refine qae (nthP gi2) ?_|refine qae (nthP pk) ?_|refine qae (nthP pi) ?_|refine qae (nthP gk0) ?_|refine qak ‹_› ?_|refine qaj ‹_› ?_|refine pkT ‹_› ?_|refine qaa ‹_› ?_|refine qap ‹_› ?_|refine qaq ‹_› ?_|refine pkF ‹_› ?_|refine qab ‹_› ?_|refine qap (gft ‹_›) ?_|refine qaq (gft ‹_›) ?_|refine pkF (gft ‹_›) ?_|refine qab (gft ‹_›) ?_|refine qak (qar ‹_›) ?_|refine qaj (qar ‹_›) ?_|refine pkT (qar ‹_›) ?_|refine qaa (qar ‹_›) ?_|refine qad hS (by kernel_rfl) ?_);conv => whnf)
      have hw:IntKind.i64.wrap (Int.ofNat (hrN J P i k) + (gL J k).1) = Int.ofNat (hrN J P i (k + 1)) :=by
       rw [hd,show Int.ofNat (hrN J P i k) + (gL J k).1 = Int.ofNat (hrN J P i k + (gL J k).1.toNat) by show (hrN J P i k:Int) + _ = ((hrN J P i k + (gL J k).1.toNat:Nat):Int);omega]
       exact qa1 (by omega)
      exact ⟨k + 1,hk2,by omega,Nat.le_refl _,(zhg 1)⟩
     ·have c0:(gi P k == gi P i) = false :=beq_eq_false_iff_ne.2 q0
      rw [if_neg fun z => q0 z.1] at hd
      try have z90:=qau hk2
      try have z91:=qal hk2
      try have z92:=qal hi2
      try have z93:=qal hkP
      try have z94:=qal hiP
      repeat ((first|refine qae (nthP gk2) ?_|refine qae (nthP gi2) ?_|refine qae (nthP pk) ?_|refine qae (nthP pi) ?_|refine qae (nthP gk0) ?_|refine qak ‹_› ?_|refine qaj ‹_› ?_|refine pkT ‹_› ?_|refine qaa ‹_› ?_|refine qap ‹_› ?_|refine qaq ‹_› ?_|refine pkF ‹_› ?_|refine qab ‹_› ?_|refine qap (gft ‹_›) ?_|refine qaq (gft ‹_›) ?_|refine pkF (gft ‹_›) ?_|refine qab (gft ‹_›) ?_|refine qap (qa2 ‹_›) ?_|refine qaq (qa2 ‹_›) ?_|refine pkF (qa2 ‹_›) ?_|refine qab (qa2 ‹_›) ?_|refine qad hS (by kernel_rfl) ?_);conv => whnf)
      have hw:Int.ofNat (hrN J P i k) = Int.ofNat (hrN J P i (k + 1)) :=by rw [hd];rfl
      exact ⟨k + 1,hk2,by omega,Nat.le_refl _,(zhg 1)⟩
    ·have c1:decide ((gL J k).2.2 < (gL J i).2.2) = false :=decide_eq_false q1
     by_cases q2:(gL J k).2.2 = (gL J i).2.2
     ·have c2:((gL J k).2.2 == (gL J i).2.2) = true :=beq_iff_eq.2 q2
      by_cases q3:k ≤ i
      ·have c3:decide (Int.ofNat k ≤ Int.ofNat i) = true :=decide_eq_true (Int.ofNat_le.2 q3)
       by_cases q0:gi P k = gi P i
       ·have c0:(gi P k == gi P i) = true :=beq_iff_eq.2 q0
        rw [if_pos ⟨q0,.inr ⟨q2,q3⟩⟩] at hd
        try have z95:=qau hk2
        try have z96:=qal hk2
        try have z97:=qal hi2
        try have z98:=qal hkP
        try have z99:=qal hiP
        repeat ((first|refine qae (nthP gk2) ?_|refine qae (nthP gi2) ?_|refine qae (nthP pk) ?_|refine qae (nthP pi) ?_|refine qae (nthP gk0) ?_|refine qak ‹_› ?_|refine qaj ‹_› ?_|refine pkT ‹_› ?_|refine qaa ‹_› ?_|refine qap ‹_› ?_|refine qaq ‹_› ?_|refine pkF ‹_› ?_|refine qab ‹_› ?_|refine qak (gff ‹_›) ?_|refine qaj (gff ‹_›) ?_|refine pkT (gff ‹_›) ?_|refine qaa (gff ‹_›) ?_|refine qak (qar ‹_›) ?_|refine qaj (qar ‹_›) ?_|refine pkT (qar ‹_›) ?_|refine qaa (qar ‹_›) ?_|refine qad hS (by kernel_rfl) ?_);conv => whnf)
        have hw:IntKind.i64.wrap (Int.ofNat (hrN J P i k) + (gL J k).1) = Int.ofNat (hrN J P i (k + 1)) :=by
         rw [hd,show Int.ofNat (hrN J P i k) + (gL J k).1 = Int.ofNat (hrN J P i k + (gL J k).1.toNat) by show (hrN J P i k:Int) + _ = ((hrN J P i k + (gL J k).1.toNat:Nat):Int);omega]
         exact qa1 (by omega)
        exact ⟨k + 1,hk2,by omega,Nat.le_refl _,(zhg 1)⟩
       ·have c0:(gi P k == gi P i) = false :=beq_eq_false_iff_ne.2 q0
        rw [if_neg fun z => q0 z.1] at hd
        try have z100:=qau hk2
        try have z101:=qal hk2
        try have z102:=qal hi2
        try have z103:=qal hkP
        try have z104:=qal hiP
        repeat ((first|refine qae (nthP gk2) ?_|refine qae (nthP gi2) ?_|refine qae (nthP pk) ?_|refine qae (nthP pi) ?_|refine qae (nthP gk0) ?_|refine qak ‹_› ?_|refine qaj ‹_› ?_|refine pkT ‹_› ?_|refine qaa ‹_› ?_|refine qap ‹_› ?_|refine qaq ‹_› ?_|refine pkF ‹_› ?_|refine qab ‹_› ?_|refine qak (gff ‹_›) ?_|refine qaj (gff ‹_›) ?_|refine pkT (gff ‹_›) ?_|refine qaa (gff ‹_›) ?_|refine qak (qar ‹_›) ?_|refine qaj (qar ‹_›) ?_|refine pkT (qar ‹_›) ?_|refine qaa (qar ‹_›) ?_|refine qap (qa2 ‹_›) ?_|refine qaq (qa2 ‹_›) ?_|refine pkF (qa2 ‹_›) ?_|refine qab (qa2 ‹_›) ?_|refine qad hS (by kernel_rfl) ?_);conv => whnf)
        have hw:Int.ofNat (hrN J P i k) = Int.ofNat (hrN J P i (k + 1)) :=by rw [hd];rfl
        exact ⟨k + 1,hk2,by omega,Nat.le_refl _,(zhg 1)⟩
      ·have c3:decide (Int.ofNat k ≤ Int.ofNat i) = false :=decide_eq_false fun z => q3 (Int.ofNat_le.1 z)
       by_cases q0:gi P k = gi P i
       ·have c0:(gi P k == gi P i) = true :=beq_iff_eq.2 q0
        rw [if_neg fun z => by have :=z.2;unfold bfrJ at this;omega] at hd
        try have z105:=qau hk2
        try have z106:=qal hk2
        try have z107:=qal hi2
        try have z108:=qal hkP
        try have z109:=qal hiP
        repeat ((first|refine qae (nthP gk2) ?_|refine qae (nthP gi2) ?_|refine qae (nthP pk) ?_|refine qae (nthP pi) ?_|refine qae (nthP gk0) ?_|refine qak ‹_› ?_|refine qaj ‹_› ?_|refine pkT ‹_› ?_|refine qaa ‹_› ?_|refine qap ‹_› ?_|refine qaq ‹_› ?_|refine pkF ‹_› ?_|refine qab ‹_› ?_|refine qak (gff ‹_›) ?_|refine qaj (gff ‹_›) ?_|refine pkT (gff ‹_›) ?_|refine qaa (gff ‹_›) ?_|refine qak (qar ‹_›) ?_|refine qaj (qar ‹_›) ?_|refine pkT (qar ‹_›) ?_|refine qaa (qar ‹_›) ?_|refine qad hS (by kernel_rfl) ?_);conv => whnf)
        have hw:Int.ofNat (hrN J P i k) = Int.ofNat (hrN J P i (k + 1)) :=by rw [hd];rfl
        exact ⟨k + 1,hk2,by omega,Nat.le_refl _,(zhg 1)⟩
       ·have c0:(gi P k == gi P i) = false :=beq_eq_false_iff_ne.2 q0
        rw [if_neg fun z => q0 z.1] at hd
        try have z110:=qau hk2
        try have z111:=qal hk2
        try have z112:=qal hi2
        try have z113:=qal hkP
        try have z114:=qal hiP
        repeat ((first|refine qae (nthP gk2) ?_|refine qae (nthP gi2) ?_|refine qae (nthP pk) ?_|refine qae (nthP pi) ?_|refine qae (nthP gk0) ?_|refine qak ‹_› ?_|refine qaj ‹_› ?_|refine pkT ‹_› ?_|refine qaa ‹_› ?_|refine qap ‹_› ?_|refine qaq ‹_› ?_|refine pkF ‹_› ?_|refine qab ‹_› ?_|refine qak (gff ‹_›) ?_|refine qaj (gff ‹_›) ?_|refine pkT (gff ‹_›) ?_|refine qaa (gff ‹_›) ?_|refine qak (qar ‹_›) ?_|refine qaj (qar ‹_›) ?_|refine pkT (qar ‹_›) ?_|refine qaa (qar ‹_›) ?_|refine qap (qa2 ‹_›) ?_|refine qaq (qa2 ‹_›) ?_|refine pkF (qa2 ‹_›) ?_|refine qab (qa2 ‹_›) ?_|refine qad hS (by kernel_rfl) ?_);conv => whnf)
        have hw:Int.ofNat (hrN J P i k) = Int.ofNat (hrN J P i (k + 1)) :=by rw [hd];rfl
        exact ⟨k + 1,hk2,by omega,Nat.le_refl _,(zhg 1)⟩
     ·have c2:((gL J k).2.2 == (gL J i).2.2) = false :=beq_eq_false_iff_ne.2 q2
      by_cases q0:gi P k = gi P i
      ·have c0:(gi P k == gi P i) = true :=beq_iff_eq.2 q0
       rw [if_neg fun z => by have :=z.2;unfold bfrJ at this;omega] at hd
       try have z115:=qau hk2
       try have z116:=qal hk2
       try have z117:=qal hi2
       try have z118:=qal hkP
       try have z119:=qal hiP
       repeat ((first|refine qae (nthP gk2) ?_|refine qae (nthP gi2) ?_|refine qae (nthP pk) ?_|refine qae (nthP pi) ?_|refine qae (nthP gk0) ?_|refine qak ‹_› ?_|refine qaj ‹_› ?_|refine pkT ‹_› ?_|refine qaa ‹_› ?_|refine qap ‹_› ?_|refine qaq ‹_› ?_|refine pkF ‹_› ?_|refine qab ‹_› ?_|refine qak (gff ‹_›) ?_|refine qaj (gff ‹_›) ?_|refine pkT (gff ‹_›) ?_|refine qaa (gff ‹_›) ?_|refine qap (qa2 ‹_›) ?_|refine qaq (qa2 ‹_›) ?_|refine pkF (qa2 ‹_›) ?_|refine qab (qa2 ‹_›) ?_|refine qak (qar ‹_›) ?_|refine qaj (qar ‹_›) ?_|refine pkT (qar ‹_›) ?_|refine qaa (qar ‹_›) ?_|refine qad hS (by kernel_rfl) ?_);conv => whnf)
       have hw:Int.ofNat (hrN J P i k) = Int.ofNat (hrN J P i (k + 1)) :=by rw [hd];rfl
       exact ⟨k + 1,hk2,by omega,Nat.le_refl _,(zhg 1)⟩
      ·have c0:(gi P k == gi P i) = false :=beq_eq_false_iff_ne.2 q0
       rw [if_neg fun z => q0 z.1] at hd
       try have z120:=qau hk2
       try have z121:=qal hk2
       try have z122:=qal hi2
       try have z123:=qal hkP
       try have z124:=qal hiP
       repeat ((first|refine qae (nthP gk2) ?_|refine qae (nthP gi2) ?_|refine qae (nthP pk) ?_|refine qae (nthP pi) ?_|refine qae (nthP gk0) ?_|refine qak ‹_› ?_|refine qaj ‹_› ?_|refine pkT ‹_› ?_|refine qaa ‹_› ?_|refine qap ‹_› ?_|refine qaq ‹_› ?_|refine pkF ‹_› ?_|refine qab ‹_› ?_|refine qak (gff ‹_›) ?_|refine qaj (gff ‹_›) ?_|refine pkT (gff ‹_›) ?_|refine qaa (gff ‹_›) ?_|refine qap (qa2 ‹_›) ?_|refine qaq (qa2 ‹_›) ?_|refine pkF (qa2 ‹_›) ?_|refine qab (qa2 ‹_›) ?_|refine qad hS (by kernel_rfl) ?_);conv => whnf)
       have hw:Int.ofNat (hrN J P i k) = Int.ofNat (hrN J P i (k + 1)) :=by rw [hd];rfl
       exact ⟨k + 1,hk2,by omega,Nat.le_refl _,(zhg 1)⟩
   ·refine qab (qa6 hk2) ?_
    conv => whnf
    refine .inl ?_
    conv => whnf
    have ek:k = J.length :=by omega
    have hwk :=(hW.2 (gi P i).toNat hpw).2.1
    have hle :=qg5 hJ P i J.length (Nat.le_refl _)
    have gp :=qa8 (l :=P) (i :=i) hiP
    have gw :=qbu W (gi P i).toNat hpw
    have hdn:(gL W (gi P i).toNat).2.1 = Int.ofNat (gL W (gi P i).toNat).2.1.toNat :=(Int.toNat_of_nonneg (by omega)).symm
    have c9:(!((gL W (gi P i).toNat).2.1 == 0)) = true :=nt_f (beq_eq_false_iff_ne.2 (by omega))
    have hq:IntKind.i64.wrap ((IntKind.i64.wrap (IntKind.i64.wrap (Int.ofNat (hrN J P i k) + (gL W (gi P i).toNat).2.1) - 1)).tdiv (gL W (gi P i).toNat).2.1) = Int.ofNat (dyN W J P i) :=by
     rw [ek]
     have h1:1 ≤ (gL W (gi P i).toNat).2.1.toNat :=by omega
     have h2:(gL W (gi P i).toNat).2.1.toNat ≤ 12 :=by omega
     unfold dyN
     rw [hdn]
     generalize (gL W (gi P i).toNat).2.1.toNat = d at h1 h2
     rw [show Int.ofNat (hrN J P i J.length) + Int.ofNat d = Int.ofNat (hrN J P i J.length + d) from rfl,qa1 (by omega),show Int.ofNat (hrN J P i J.length + d) - 1 = Int.ofNat (hrN J P i J.length + d - 1) by show ((hrN J P i J.length + d:Nat):Int) - 1 = ((hrN J P i J.length + d - 1:Nat):Int);omega,qa1 (by omega)]
     show IntKind.i64.wrap ((Int.ofNat (hrN J P i J.length + d - 1)).tdiv (Int.ofNat d)) = Int.ofNat ((hrN J P i J.length + Int.toNat (Int.ofNat d) - 1) / Int.toNat (Int.ofNat d))
     exact quoN (by omega)
    have e1:AV.lst (ivs (dnT W J P i) ++ [iv (IntKind.i64.wrap ((IntKind.i64.wrap (IntKind.i64.wrap (Int.ofNat (hrN J P i k) + (gL W (gi P i).toNat).2.1) - 1)).tdiv (gL W (gi P i).toNat).2.1))]) ((dnT W J P i).length + (0 + 1)) (.ch 0) = .lst (ivs (dnT W J P (i + 1))) (dnT W J P (i + 1)).length (.ch 0) :=by
     rw [hq,qk8,qfp,List.length_append];rfl
    have e2:AObj.chain ((dnT W J P i).length + (0 + 1)) 1 3 = .chain (dnT W J P (i + 1)).length 1 3 :=by rw [qk8,List.length_append];rfl
    try have z125:=qal hiP
    repeat ((first|refine qae (nthP gp) ?_|refine qae (nthP gw) ?_|refine qak ‹_› ?_|refine qaj ‹_› ?_|refine pkT ‹_› ?_|refine qaa ‹_› ?_|refine qad hS (by kernel_rfl) ?_);conv => whnf)
    refine qaa (decide_eq_true (show ((dnT W J P i).length + (0 + 1)) * 8 ≤ 140737488355328 by rw [qdx];omega)) ?_
    conv => whnf
    refine qaa (decide_eq_true (show (dnT W J P i).length + (0 + 1) ≤ 9223372036854775807 by rw [qdx];omega)) ?_
    conv => whnf
    refine qaa (qc4 (dnT W J P i)) ?_
    conv => whnf
    refine qaa (decide_eq_true rfl) ?_
    conv => whnf
    exact ⟨(i + 1,.lst (ivs (dnT W J P (i + 1))) (dnT W J P (i + 1)).length (.ch 0),[.chain (dnT W J P (i + 1)).length 1 3]),⟨hi2,.inr ⟨by omega,rfl,rfl⟩⟩,by show J.length - (i + 1) < J.length - i;omega,Nat.le_refl _,(zhg 1)⟩
  ·refine qab (qa6 hi2) ?_
   conv => whnf
   refine .inl ?_
   conv => whnf
   have ei:i = J.length :=by omega
   rw [ei]
   exact ⟨_,rfl,qi0 rfl⟩
end
end Go.Abs.Seat
