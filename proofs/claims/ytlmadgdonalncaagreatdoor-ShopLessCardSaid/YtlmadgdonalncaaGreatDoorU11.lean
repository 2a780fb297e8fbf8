/-
  What the program tells of a piece: trains, rates, how far off.
-/
import Derived.Test.YtlmadgdonalncaaGreatDoorB16
import Derived.Test.YtlmadgdonalncaaGreatDoorU7
import Derived.Test.YtlmadgdonalncaaGreatDoorU10
import Derived.Test.YtlmadgdonalncaaGreatDoorT36
namespace Go.Abs.Seat
noncomputable section
open Go Go.Abs Go.Proofs.Tryz
set_option maxRecDepth 100000
set_option maxHeartbeats 40000000
attribute [local irreducible] IntKind.wrap pEq
structure pcN (N:List Lk) (H:List Nat):Prop where
 ok:okN N
 l1:1 ≤ N.length
 l5:N.length ≤ 5
 h1:1 ≤ H.length
 h4:H.length ≤ 4
 hd:∀ x,x ∈ H → 1 ≤ x ∧ x ≤ N.length
theorem qvd (long saw:Int) (teeth:List Nat):Pure prog 87 [iv long,iv saw,nl (zl teeth),.nils] (.bool true) :=by
 have lT :=qal (zl teeth)
 refine qas hE rfl (by repeat' first|exact trivial|assumption|exact qag _|exact fun _ h => nomatch h|apply And.intro) (by repeat' first|exact trivial|assumption|exact qag _|exact fun _ h => nomatch h|apply And.intro) fun S q pc hS hq hC hE => ?_
 conv => whnf
 refine qam hE hS ?_
 conv => whnf
 exact ⟨_,rfl,Wk.refl _⟩
def swOk (l s:Int):Prop :=(1 ≤ l ∧ l ≤ 500) ∧ 0 ≤ s ∧ s ≤ 9
instance (l s:Int):Decidable (swOk l s) :=instDecidableAnd
theorem qi1 (l s:Int):Pure prog 83 [iv l,iv s] (.bool (decide (swOk l s))) :=by
 by_cases h1:1 ≤ l ∧ l ≤ 500
 ·have c1:decide (1 ≤ l ∧ l ≤ 500) = true :=decide_eq_true h1
  refine qas hE rfl (by repeat' first|exact trivial|assumption|exact qag _|exact fun _ h => nomatch h|apply And.intro) (by repeat' first|exact trivial|assumption|exact qag _|exact fun _ h => nomatch h|apply And.intro) fun S q pc hS hq hC hE => ?_
  conv => whnf
  repeat ((first|refine qai c1 ?_|refine qah c1 ?_|refine pkT c1 ?_|refine qaa c1 ?_|refine qai (qaj c1) ?_|refine qah (qaj c1) ?_|refine pkT (qaj c1) ?_|refine qaa (qaj c1) ?_|refine qab hC (qax l 1 500) ?_|refine qab hC (qax s 0 9) ?_|refine qad hS (by kernel_rfl) ?_);conv => whnf)
  exact ⟨_,rfl,wkb (by unfold swOk;simp [h1])⟩
 ·have c1:decide (1 ≤ l ∧ l ≤ 500) = false :=decide_eq_false h1
  refine qas hE rfl (by repeat' first|exact trivial|assumption|exact qag _|exact fun _ h => nomatch h|apply And.intro) (by repeat' first|exact trivial|assumption|exact qag _|exact fun _ h => nomatch h|apply And.intro) fun S q pc hS hq hC hE => ?_
  conv => whnf
  repeat ((first|refine qao c1 ?_|refine qap c1 ?_|refine pkF c1 ?_|refine qac c1 ?_|refine qao (qay c1) ?_|refine qap (qay c1) ?_|refine pkF (qay c1) ?_|refine qac (qay c1) ?_|refine qab hC (qax l 1 500) ?_|refine qad hS (by kernel_rfl) ?_);conv => whnf)
  exact ⟨_,rfl,wkb (by unfold swOk;simp [h1])⟩


def okW (e:LkI):Prop :=(0 ≤ e.1 ∧ e.1 ≤ 3) ∧ (1 ≤ e.2.1 ∧ e.2.1 ≤ 12) ∧ (0 ≤ e.2.2 ∧ e.2.2 ≤ 100)
def areW (L:List LkI):Prop :=(1 ≤ L.length ∧ L.length ≤ 3) ∧ ∀ j,j < L.length → okW (gL L j)
instance (L:List LkI):Decidable (areW L) :=Classical.propDecidable _
def okJ (e:LkI):Prop :=(1 ≤ e.1 ∧ e.1 ≤ 40) ∧ (0 ≤ e.2.1 ∧ e.2.1 ≤ 3) ∧ (1 ≤ e.2.2 ∧ e.2.2 ≤ 60)
def areJ (L:List LkI):Prop :=(1 ≤ L.length ∧ L.length ≤ 6) ∧ ∀ j,j < L.length → okJ (gL L j)
instance (L:List LkI):Decidable (areJ L) :=Classical.propDecidable _
theorem qz5 {L:List LkI} (hl:L.length ≤ 3) (h1:1 ≤ L.length):Pure prog 70 [lkA L] (.bool (decide (areW L))) :=by
 obtain ⟨B,hB⟩ : ∃ B,decide (areW L) = B :=⟨_,rfl⟩
 rw [hB]
 have lL :=qau L
 have k1:decide (1 ≤ (L.length:Int) ∧ (L.length:Int) ≤ 3) = true :=decide_eq_true (by omega)
 refine qas hE rfl (by repeat' first|exact trivial|assumption|exact qag _|exact fun _ h => nomatch h|apply And.intro) (by repeat' first|exact trivial|assumption|exact qag _|exact fun _ h => nomatch h|apply And.intro) fun S q pc hS hq hC hE => ?_
 conv => whnf
 repeat ((first|refine qai k1 ?_|refine qah k1 ?_|refine pkT k1 ?_|refine qaa k1 ?_|refine qai (qaj k1) ?_|refine qah (qaj k1) ?_|refine pkT (qaj k1) ?_|refine qaa (qaj k1) ?_|refine qab hC (qax (L.length:Int) 1 3) ?_|refine qad hS (by kernel_rfl) ?_);conv => whnf)
 refine qar hC ?_
 conv => whnf
 refine qan hE hS ?_
 conv => whnf
 refine qar hC ?_
 conv => whnf
 refine qan hE hS ?_
 conv => whnf
 refine qa4 hE hS (A :=Nat) [0,1,7] (fun i => [(8,nv i)]) (fun _ => []) (fun _ => []) (fun i => i ≤ L.length ∧ ∀ j,j < i → okW (gL L j)) (fun i => L.length - i) 0 (kle rfl) rfl (zhg 0) ⟨Nat.zero_le _,fun _ h => absurd h (Nat.not_lt_zero _)⟩ ?_
 intro i ⟨hi,hj⟩ K hK
 obtain rfl:K = 0 :=hK
 conv => whnf
 by_cases hi2:i < L.length
 ·refine qaa (qa3 hi2) ?_
  conv => whnf
  refine qaa (qav hi2) ?_
  conv => whnf
  refine qaf (takP (qny L hi2)) ?_
  conv => whnf
  refine qar hC ?_
  conv => whnf
  refine qan hE hS ?_
  conv => whnf
  have bad:¬ okW (gL L i) → decide (areW L) = false :=fun z => decide_eq_false fun k => z (k.2 i hi2)
  have hi1:IntKind.i64.wrap (Int.ofNat i + 1) = Int.ofNat (i + 1) :=qa7 (m :=i + 1) (by omega)
  by_cases p0:(0 ≤ (gL L i).1 ∧ (gL L i).1 ≤ 3)
  ·have c0:(!decide (0 ≤ (gL L i).1 ∧ (gL L i).1 ≤ 3)) = false :=nt_t (decide_eq_true p0)
   by_cases p1:(1 ≤ (gL L i).2.1 ∧ (gL L i).2.1 ≤ 12)
   ·have c1:(!decide (1 ≤ (gL L i).2.1 ∧ (gL L i).2.1 ≤ 12)) = false :=nt_t (decide_eq_true p1)
    by_cases p2:(0 ≤ (gL L i).2.2 ∧ (gL L i).2.2 ≤ 100)
    ·have c2:(!decide (0 ≤ (gL L i).2.2 ∧ (gL L i).2.2 ≤ 100)) = false :=nt_t (decide_eq_true p2)
     repeat ((first|refine qao ‹_› ?_|refine qap ‹_› ?_|refine pkF ‹_› ?_|refine qac ‹_› ?_|refine qai (gff ‹_›) ?_|refine qah (gff ‹_›) ?_|refine pkT (gff ‹_›) ?_|refine qaa (gff ‹_›) ?_|refine qab hC (qax (gL L i).1 0 3) ?_|refine qab hC (qax (gL L i).2.1 1 12) ?_|refine qab hC (qax (gL L i).2.2 0 100) ?_|refine qad hS (by kernel_rfl) ?_);conv => whnf)
     exact ⟨i + 1,⟨hi2,fun j h => by
      by_cases e:j = i
      ·rw [e];exact ⟨p0,p1,p2⟩
      ·exact hj j (by omega)⟩,by omega,Nat.le_refl _,(zhg 0)⟩
    ·have c2:(!decide (0 ≤ (gL L i).2.2 ∧ (gL L i).2.2 ≤ 100)) = true :=nt_f (decide_eq_false p2)
     repeat ((first|refine qai ‹_› ?_|refine qah ‹_› ?_|refine pkT ‹_› ?_|refine qaa ‹_› ?_|refine qao ‹_› ?_|refine qap ‹_› ?_|refine pkF ‹_› ?_|refine qac ‹_› ?_|refine qai (gff ‹_›) ?_|refine qah (gff ‹_›) ?_|refine pkT (gff ‹_›) ?_|refine qaa (gff ‹_›) ?_|refine qao (gft ‹_›) ?_|refine qap (gft ‹_›) ?_|refine pkF (gft ‹_›) ?_|refine qac (gft ‹_›) ?_|refine qai (qaj ‹_›) ?_|refine qah (qaj ‹_›) ?_|refine pkT (qaj ‹_›) ?_|refine qaa (qaj ‹_›) ?_|refine qab hC (qax (gL L i).1 0 3) ?_|refine qab hC (qax (gL L i).2.1 1 12) ?_|refine qab hC (qax (gL L i).2.2 0 100) ?_|refine qad hS (by kernel_rfl) ?_);conv => whnf)
     conv => whnf
     exact ⟨_,rfl,wkb ((bad (fun z => p2 z.2.2)).symm.trans hB)⟩
   ·have c1:(!decide (1 ≤ (gL L i).2.1 ∧ (gL L i).2.1 ≤ 12)) = true :=nt_f (decide_eq_false p1)
    repeat ((first|refine qai ‹_› ?_|refine qah ‹_› ?_|refine pkT ‹_› ?_|refine qaa ‹_› ?_|refine qao ‹_› ?_|refine qap ‹_› ?_|refine pkF ‹_› ?_|refine qac ‹_› ?_|refine qai (gff ‹_›) ?_|refine qah (gff ‹_›) ?_|refine pkT (gff ‹_›) ?_|refine qaa (gff ‹_›) ?_|refine qao (gft ‹_›) ?_|refine qap (gft ‹_›) ?_|refine pkF (gft ‹_›) ?_|refine qac (gft ‹_›) ?_|refine qai (qaj ‹_›) ?_|refine qah (qaj ‹_›) ?_|refine pkT (qaj ‹_›) ?_|refine qaa (qaj ‹_›) ?_|refine qab hC (qax (gL L i).1 0 3) ?_|refine qab hC (qax (gL L i).2.1 1 12) ?_|refine qab hC (qax (gL L i).2.2 0 100) ?_|refine qad hS (by kernel_rfl) ?_);conv => whnf)
    conv => whnf
    exact ⟨_,rfl,wkb ((bad (fun z => p1 z.2.1)).symm.trans hB)⟩
  ·have c0:(!decide (0 ≤ (gL L i).1 ∧ (gL L i).1 ≤ 3)) = true :=nt_f (decide_eq_false p0)
   repeat ((first|refine qai ‹_› ?_|refine qah ‹_› ?_|refine pkT ‹_› ?_|refine qaa ‹_› ?_|refine qao (gft ‹_›) ?_|refine qap (gft ‹_›) ?_|refine pkF (gft ‹_›) ?_|refine qac (gft ‹_›) ?_|refine qai (qaj ‹_›) ?_|refine qah (qaj ‹_›) ?_|refine pkT (qaj ‹_›) ?_|refine qaa (qaj ‹_›) ?_|refine qab hC (qax (gL L i).1 0 3) ?_|refine qab hC (qax (gL L i).2.1 1 12) ?_|refine qab hC (qax (gL L i).2.2 0 100) ?_|refine qad hS (by kernel_rfl) ?_);conv => whnf)
   conv => whnf
   exact ⟨_,rfl,wkb ((bad (fun z => p0 z.1)).symm.trans hB)⟩
 ·refine qac (qbn hi2) ?_
  conv => whnf
  refine .inl ?_
  conv => whnf
  repeat ((first|refine qai k1 ?_|refine qah k1 ?_|refine pkT k1 ?_|refine qaa k1 ?_|refine qai (qaj k1) ?_|refine qah (qaj k1) ?_|refine pkT (qaj k1) ?_|refine qaa (qaj k1) ?_|refine qad hS (by kernel_rfl) ?_);conv => whnf)
  exact ⟨_,rfl,wkb ((decide_eq_true (show areW L from ⟨⟨h1,hl⟩,fun j h => hj j (by omega)⟩)).symm.trans hB)⟩
theorem qtw {x:AV} {L:List LkI} (hx:LL x L):Pure prog 70 [x] (.bool (decide (areW L))) :=by
 have lx :=hx.no
 by_cases h:1 ≤ L.length ∧ L.length ≤ 3
 ·rcases hx with ⟨_,rfl⟩ | rfl
  ·exact absurd h.1 (by decide)
  ·exact qz5 h.2 h.1
 ·have k1:decide (1 ≤ (L.length:Int) ∧ (L.length:Int) ≤ 3) = false :=decide_eq_false (by omega)
  rw [decide_eq_false (show ¬ areW L from fun z => h z.1)]
  rcases hx with ⟨rfl,rfl⟩ | rfl
  all_goals
   refine qas hE rfl (by repeat' first|exact trivial|assumption|exact qag _|exact fun _ h => nomatch h|apply And.intro) (by repeat' first|exact trivial|assumption|exact qag _|exact fun _ h => nomatch h|apply And.intro) fun S q pc hS hq hC hE => ?_
   conv => whnf
   repeat ((first|refine qao k1 ?_|refine qap k1 ?_|refine pkF k1 ?_|refine qac k1 ?_|refine qao (qay k1) ?_|refine qap (qay k1) ?_|refine pkF (qay k1) ?_|refine qac (qay k1) ?_|refine qab hC (qax (([]:List LkI).length:Int) 1 3) ?_|refine qab hC (qax (L.length:Int) 1 3) ?_|refine qad hS (by kernel_rfl) ?_);conv => whnf)
   exact ⟨_,rfl,Wk.refl _⟩
theorem qz6 {L:List LkI} (hl:L.length ≤ 6) (h1:1 ≤ L.length):Pure prog 71 [lkA L] (.bool (decide (areJ L))) :=by
 obtain ⟨B,hB⟩ : ∃ B,decide (areJ L) = B :=⟨_,rfl⟩
 rw [hB]
 have lL :=qau L
 have k1:decide (1 ≤ (L.length:Int) ∧ (L.length:Int) ≤ 6) = true :=decide_eq_true (by omega)
 refine qas hE rfl (by repeat' first|exact trivial|assumption|exact qag _|exact fun _ h => nomatch h|apply And.intro) (by repeat' first|exact trivial|assumption|exact qag _|exact fun _ h => nomatch h|apply And.intro) fun S q pc hS hq hC hE => ?_
 conv => whnf
 repeat ((first|refine qai k1 ?_|refine qah k1 ?_|refine pkT k1 ?_|refine qaa k1 ?_|refine qai (qaj k1) ?_|refine qah (qaj k1) ?_|refine pkT (qaj k1) ?_|refine qaa (qaj k1) ?_|refine qab hC (qax (L.length:Int) 1 6) ?_|refine qad hS (by kernel_rfl) ?_);conv => whnf)
 refine qar hC ?_
 conv => whnf
 refine qan hE hS ?_
 conv => whnf
 refine qar hC ?_
 conv => whnf
 refine qan hE hS ?_
 conv => whnf
 refine qa4 hE hS (A :=Nat) [0,1,7] (fun i => [(8,nv i)]) (fun _ => []) (fun _ => []) (fun i => i ≤ L.length ∧ ∀ j,j < i → okJ (gL L j)) (fun i => L.length - i) 0 (kle rfl) rfl (zhg 0) ⟨Nat.zero_le _,fun _ h => absurd h (Nat.not_lt_zero _)⟩ ?_
 intro i ⟨hi,hj⟩ K hK
 obtain rfl:K = 0 :=hK
 conv => whnf
 by_cases hi2:i < L.length
 ·refine qaa (qa3 hi2) ?_
  conv => whnf
  refine qaa (qav hi2) ?_
  conv => whnf
  refine qaf (takP (qny L hi2)) ?_
  conv => whnf
  refine qar hC ?_
  conv => whnf
  refine qan hE hS ?_
  conv => whnf
  have bad:¬ okJ (gL L i) → decide (areJ L) = false :=fun z => decide_eq_false fun k => z (k.2 i hi2)
  have hi1:IntKind.i64.wrap (Int.ofNat i + 1) = Int.ofNat (i + 1) :=qa7 (m :=i + 1) (by omega)
  by_cases p0:(1 ≤ (gL L i).1 ∧ (gL L i).1 ≤ 40)
  ·have c0:(!decide (1 ≤ (gL L i).1 ∧ (gL L i).1 ≤ 40)) = false :=nt_t (decide_eq_true p0)
   by_cases p1:(0 ≤ (gL L i).2.1 ∧ (gL L i).2.1 ≤ 3)
   ·have c1:(!decide (0 ≤ (gL L i).2.1 ∧ (gL L i).2.1 ≤ 3)) = false :=nt_t (decide_eq_true p1)
    by_cases p2:(1 ≤ (gL L i).2.2 ∧ (gL L i).2.2 ≤ 60)
    ·have c2:(!decide (1 ≤ (gL L i).2.2 ∧ (gL L i).2.2 ≤ 60)) = false :=nt_t (decide_eq_true p2)
     repeat ((first|refine qao ‹_› ?_|refine qap ‹_› ?_|refine pkF ‹_› ?_|refine qac ‹_› ?_|refine qai (gff ‹_›) ?_|refine qah (gff ‹_›) ?_|refine pkT (gff ‹_›) ?_|refine qaa (gff ‹_›) ?_|refine qab hC (qax (gL L i).1 1 40) ?_|refine qab hC (qax (gL L i).2.1 0 3) ?_|refine qab hC (qax (gL L i).2.2 1 60) ?_|refine qad hS (by kernel_rfl) ?_);conv => whnf)
     exact ⟨i + 1,⟨hi2,fun j h => by
      by_cases e:j = i
      ·rw [e];exact ⟨p0,p1,p2⟩
      ·exact hj j (by omega)⟩,by omega,Nat.le_refl _,(zhg 0)⟩
    ·have c2:(!decide (1 ≤ (gL L i).2.2 ∧ (gL L i).2.2 ≤ 60)) = true :=nt_f (decide_eq_false p2)
     repeat ((first|refine qai ‹_› ?_|refine qah ‹_› ?_|refine pkT ‹_› ?_|refine qaa ‹_› ?_|refine qao ‹_› ?_|refine qap ‹_› ?_|refine pkF ‹_› ?_|refine qac ‹_› ?_|refine qai (gff ‹_›) ?_|refine qah (gff ‹_›) ?_|refine pkT (gff ‹_›) ?_|refine qaa (gff ‹_›) ?_|refine qao (gft ‹_›) ?_|refine qap (gft ‹_›) ?_|refine pkF (gft ‹_›) ?_|refine qac (gft ‹_›) ?_|refine qai (qaj ‹_›) ?_|refine qah (qaj ‹_›) ?_|refine pkT (qaj ‹_›) ?_|refine qaa (qaj ‹_›) ?_|refine qab hC (qax (gL L i).1 1 40) ?_|refine qab hC (qax (gL L i).2.1 0 3) ?_|refine qab hC (qax (gL L i).2.2 1 60) ?_|refine qad hS (by kernel_rfl) ?_);conv => whnf)
     conv => whnf
     exact ⟨_,rfl,wkb ((bad (fun z => p2 z.2.2)).symm.trans hB)⟩
   ·have c1:(!decide (0 ≤ (gL L i).2.1 ∧ (gL L i).2.1 ≤ 3)) = true :=nt_f (decide_eq_false p1)
    repeat ((first|refine qai ‹_› ?_|refine qah ‹_› ?_|refine pkT ‹_› ?_|refine qaa ‹_› ?_|refine qao ‹_› ?_|refine qap ‹_› ?_|refine pkF ‹_› ?_|refine qac ‹_› ?_|refine qai (gff ‹_›) ?_|refine qah (gff ‹_›) ?_|refine pkT (gff ‹_›) ?_|refine qaa (gff ‹_›) ?_|refine qao (gft ‹_›) ?_|refine qap (gft ‹_›) ?_|refine pkF (gft ‹_›) ?_|refine qac (gft ‹_›) ?_|refine qai (qaj ‹_›) ?_|refine qah (qaj ‹_›) ?_|refine pkT (qaj ‹_›) ?_|refine qaa (qaj ‹_›) ?_|refine qab hC (qax (gL L i).1 1 40) ?_|refine qab hC (qax (gL L i).2.1 0 3) ?_|refine qab hC (qax (gL L i).2.2 1 60) ?_|refine qad hS (by kernel_rfl) ?_);conv => whnf)
    conv => whnf
    exact ⟨_,rfl,wkb ((bad (fun z => p1 z.2.1)).symm.trans hB)⟩
  ·have c0:(!decide (1 ≤ (gL L i).1 ∧ (gL L i).1 ≤ 40)) = true :=nt_f (decide_eq_false p0)
   repeat ((first|refine qai ‹_› ?_|refine qah ‹_› ?_|refine pkT ‹_› ?_|refine qaa ‹_› ?_|refine qao (gft ‹_›) ?_|refine qap (gft ‹_›) ?_|refine pkF (gft ‹_›) ?_|refine qac (gft ‹_›) ?_|refine qai (qaj ‹_›) ?_|refine qah (qaj ‹_›) ?_|refine pkT (qaj ‹_›) ?_|refine qaa (qaj ‹_›) ?_|refine qab hC (qax (gL L i).1 1 40) ?_|refine qab hC (qax (gL L i).2.1 0 3) ?_|refine qab hC (qax (gL L i).2.2 1 60) ?_|refine qad hS (by kernel_rfl) ?_);conv => whnf)
   conv => whnf
   exact ⟨_,rfl,wkb ((bad (fun z => p0 z.1)).symm.trans hB)⟩
 ·refine qac (qbn hi2) ?_
  conv => whnf
  refine .inl ?_
  conv => whnf
  repeat ((first|refine qai k1 ?_|refine qah k1 ?_|refine pkT k1 ?_|refine qaa k1 ?_|refine qai (qaj k1) ?_|refine qah (qaj k1) ?_|refine pkT (qaj k1) ?_|refine qaa (qaj k1) ?_|refine qad hS (by kernel_rfl) ?_);conv => whnf)
  exact ⟨_,rfl,wkb ((decide_eq_true (show areJ L from ⟨⟨h1,hl⟩,fun j h => hj j (by omega)⟩)).symm.trans hB)⟩
theorem qtx {x:AV} {L:List LkI} (hx:LL x L):Pure prog 71 [x] (.bool (decide (areJ L))) :=by
 have lx :=hx.no
 by_cases h:1 ≤ L.length ∧ L.length ≤ 6
 ·rcases hx with ⟨_,rfl⟩ | rfl
  ·exact absurd h.1 (by decide)
  ·exact qz6 h.2 h.1
 ·have k1:decide (1 ≤ (L.length:Int) ∧ (L.length:Int) ≤ 6) = false :=decide_eq_false (by omega)
  rw [decide_eq_false (show ¬ areJ L from fun z => h z.1)]
  rcases hx with ⟨rfl,rfl⟩ | rfl
  all_goals
   refine qas hE rfl (by repeat' first|exact trivial|assumption|exact qag _|exact fun _ h => nomatch h|apply And.intro) (by repeat' first|exact trivial|assumption|exact qag _|exact fun _ h => nomatch h|apply And.intro) fun S q pc hS hq hC hE => ?_
   conv => whnf
   repeat ((first|refine qao k1 ?_|refine qap k1 ?_|refine pkF k1 ?_|refine qac k1 ?_|refine qao (qay k1) ?_|refine qap (qay k1) ?_|refine pkF (qay k1) ?_|refine qac (qay k1) ?_|refine qab hC (qax (([]:List LkI).length:Int) 1 6) ?_|refine qab hC (qax (L.length:Int) 1 6) ?_|refine qad hS (by kernel_rfl) ?_);conv => whnf)
   exact ⟨_,rfl,Wk.refl _⟩
theorem qur {W J:List LkI} (hw:W.length ≤ 5) (hj:J.length ≤ 8):Pure prog 26 [lkA W,lkA J] (.bool (decide (areW W ∧ areJ J))) :=by
 obtain ⟨B,hB⟩ : ∃ B,decide (areW W ∧ areJ J) = B :=⟨_,rfl⟩
 rw [hB]
 have lW :=qau W
 have lJ :=qau J
 refine qas hE rfl (by repeat' first|exact trivial|assumption|exact qag _|exact fun _ h => nomatch h|apply And.intro) (by repeat' first|exact trivial|assumption|exact qag _|exact fun _ h => nomatch h|apply And.intro) fun S q pc hS hq hC hE => ?_
 conv => whnf
 refine qa4 hE hS (A :=Nat) [0,1] (fun i => [(5,nv i)]) (fun _ => []) (fun _ => []) (fun i => i ≤ W.length ∧ ∀ j,j < i → okW (gL W j)) (fun i => W.length - i) 0 (kle rfl) rfl (zhg 0) ⟨Nat.zero_le _,fun _ h => absurd h (Nat.not_lt_zero _)⟩ ?_
 intro i ⟨hi,hjW⟩ K hK
 obtain rfl:K = 0 :=hK
 conv => whnf
 by_cases hi2:i < W.length
 ·have g0 :=qbf W i hi2
  have g1 :=qb9 W i hi2
  have g2 :=qck W i hi2
  have bad:¬ okW (gL W i) → decide (areW W ∧ areJ J) = false :=fun z => decide_eq_false fun k => z (k.1.2 i hi2)
  have hi1:IntKind.i64.wrap (Int.ofNat i + 1) = Int.ofNat (i + 1) :=qa7 (m :=i + 1) (by omega)
  by_cases p0:(0 ≤ (gL W i).1 ∧ (gL W i).1 ≤ 3)
  ·have c0:(!decide (0 ≤ (gL W i).1 ∧ (gL W i).1 ≤ 3)) = false :=nt_t (decide_eq_true p0)
   by_cases p1:(1 ≤ (gL W i).2.1 ∧ (gL W i).2.1 ≤ 12)
   ·have c1:(!decide (1 ≤ (gL W i).2.1 ∧ (gL W i).2.1 ≤ 12)) = false :=nt_t (decide_eq_true p1)
    by_cases p2:(0 ≤ (gL W i).2.2 ∧ (gL W i).2.2 ≤ 100)
    ·have c2:(!decide (0 ≤ (gL W i).2.2 ∧ (gL W i).2.2 ≤ 100)) = false :=nt_t (decide_eq_true p2)
     try have z1:=qa3 hi2
     try have z2:=qav hi2
     repeat ((first|refine qaf (nthP g0) ?_|refine qaf (nthP g1) ?_|refine qaf (nthP g2) ?_|refine qai ‹_› ?_|refine qah ‹_› ?_|refine pkT ‹_› ?_|refine qaa ‹_› ?_|refine qao ‹_› ?_|refine qap ‹_› ?_|refine pkF ‹_› ?_|refine qac ‹_› ?_|refine qai (gff ‹_›) ?_|refine qah (gff ‹_›) ?_|refine pkT (gff ‹_›) ?_|refine qaa (gff ‹_›) ?_|refine qab hC (qaw (gL W i).1 0 3) ?_|refine qab hC (qaw (gL W i).2.1 1 12) ?_|refine qab hC (qaw (gL W i).2.2 0 100) ?_|refine qad hS (by kernel_rfl) ?_);conv => whnf)
     exact ⟨i + 1,⟨hi2,fun j h => by
      by_cases e:j = i
      ·rw [e];exact ⟨p0,p1,p2⟩
      ·exact hjW j (by omega)⟩,by omega,Nat.le_refl _,(zhg 0)⟩
    ·have c2:(!decide (0 ≤ (gL W i).2.2 ∧ (gL W i).2.2 ≤ 100)) = true :=nt_f (decide_eq_false p2)
     try have z3:=qa3 hi2
     try have z4:=qav hi2
     repeat ((first|refine qaf (nthP g0) ?_|refine qaf (nthP g1) ?_|refine qaf (nthP g2) ?_|refine qai ‹_› ?_|refine qah ‹_› ?_|refine pkT ‹_› ?_|refine qaa ‹_› ?_|refine qao ‹_› ?_|refine qap ‹_› ?_|refine pkF ‹_› ?_|refine qac ‹_› ?_|refine qai (gff ‹_›) ?_|refine qah (gff ‹_›) ?_|refine pkT (gff ‹_›) ?_|refine qaa (gff ‹_›) ?_|refine qao (gft ‹_›) ?_|refine qap (gft ‹_›) ?_|refine pkF (gft ‹_›) ?_|refine qac (gft ‹_›) ?_|refine qab hC (qaw (gL W i).1 0 3) ?_|refine qab hC (qaw (gL W i).2.1 1 12) ?_|refine qab hC (qaw (gL W i).2.2 0 100) ?_|refine qad hS (by kernel_rfl) ?_);conv => whnf)
     exact ⟨_,rfl,wkb ((bad (fun z => p2 z.2.2)).symm.trans hB)⟩
   ·have c1:(!decide (1 ≤ (gL W i).2.1 ∧ (gL W i).2.1 ≤ 12)) = true :=nt_f (decide_eq_false p1)
    try have z5:=qa3 hi2
    try have z6:=qav hi2
    repeat ((first|refine qaf (nthP g0) ?_|refine qaf (nthP g1) ?_|refine qaf (nthP g2) ?_|refine qai ‹_› ?_|refine qah ‹_› ?_|refine pkT ‹_› ?_|refine qaa ‹_› ?_|refine qao ‹_› ?_|refine qap ‹_› ?_|refine pkF ‹_› ?_|refine qac ‹_› ?_|refine qai (gff ‹_›) ?_|refine qah (gff ‹_›) ?_|refine pkT (gff ‹_›) ?_|refine qaa (gff ‹_›) ?_|refine qao (gft ‹_›) ?_|refine qap (gft ‹_›) ?_|refine pkF (gft ‹_›) ?_|refine qac (gft ‹_›) ?_|refine qab hC (qaw (gL W i).1 0 3) ?_|refine qab hC (qaw (gL W i).2.1 1 12) ?_|refine qab hC (qaw (gL W i).2.2 0 100) ?_|refine qad hS (by kernel_rfl) ?_);conv => whnf)
    exact ⟨_,rfl,wkb ((bad (fun z => p1 z.2.1)).symm.trans hB)⟩
  ·have c0:(!decide (0 ≤ (gL W i).1 ∧ (gL W i).1 ≤ 3)) = true :=nt_f (decide_eq_false p0)
   try have z7:=qa3 hi2
   try have z8:=qav hi2
   repeat ((first|refine qaf (nthP g0) ?_|refine qaf (nthP g1) ?_|refine qaf (nthP g2) ?_|refine qai ‹_› ?_|refine qah ‹_› ?_|refine pkT ‹_› ?_|refine qaa ‹_› ?_|refine qao ‹_› ?_|refine qap ‹_› ?_|refine pkF ‹_› ?_|refine qac ‹_› ?_|refine qao (gft ‹_›) ?_|refine qap (gft ‹_›) ?_|refine pkF (gft ‹_›) ?_|refine qac (gft ‹_›) ?_|refine qab hC (qaw (gL W i).1 0 3) ?_|refine qab hC (qaw (gL W i).2.1 1 12) ?_|refine qab hC (qaw (gL W i).2.2 0 100) ?_|refine qad hS (by kernel_rfl) ?_);conv => whnf)
   exact ⟨_,rfl,wkb ((bad (fun z => p0 z.1)).symm.trans hB)⟩
 ·refine qac (qbn hi2) ?_
  conv => whnf
  refine .inl ?_
  conv => whnf
  have haW:∀ j,j < W.length → okW (gL W j) :=fun j h => hjW j (by omega)
  clear hi hi2 hjW
  refine qa4 hE hS (A :=Nat) [0,1] (fun i => [(6,nv i)]) (fun _ => []) (fun _ => []) (fun i => i ≤ J.length ∧ ∀ j,j < i → okJ (gL J j)) (fun i => J.length - i) 0 (kle rfl) rfl (zhg 0) ⟨Nat.zero_le _,fun _ h => absurd h (Nat.not_lt_zero _)⟩ ?_
  intro i ⟨hi,hjJ⟩ K hK
  obtain rfl:K = 0 :=hK
  conv => whnf
  by_cases hi2:i < J.length
  ·have g0 :=qbf J i hi2
   have g1 :=qb9 J i hi2
   have g2 :=qck J i hi2
   have bad:¬ okJ (gL J i) → decide (areW W ∧ areJ J) = false :=fun z => decide_eq_false fun k => z (k.2.2 i hi2)
   have hi1:IntKind.i64.wrap (Int.ofNat i + 1) = Int.ofNat (i + 1) :=qa7 (m :=i + 1) (by omega)
   by_cases p0:(1 ≤ (gL J i).1 ∧ (gL J i).1 ≤ 40)
   ·have c0:(!decide (1 ≤ (gL J i).1 ∧ (gL J i).1 ≤ 40)) = false :=nt_t (decide_eq_true p0)
    by_cases p1:(0 ≤ (gL J i).2.1 ∧ (gL J i).2.1 ≤ 3)
    ·have c1:(!decide (0 ≤ (gL J i).2.1 ∧ (gL J i).2.1 ≤ 3)) = false :=nt_t (decide_eq_true p1)
     by_cases p2:(1 ≤ (gL J i).2.2 ∧ (gL J i).2.2 ≤ 60)
     ·have c2:(!decide (1 ≤ (gL J i).2.2 ∧ (gL J i).2.2 ≤ 60)) = false :=nt_t (decide_eq_true p2)
      try have z9:=qa3 hi2
      try have z10:=qav hi2
      repeat ((first|refine qaf (nthP g0) ?_|refine qaf (nthP g1) ?_|refine qaf (nthP g2) ?_|refine qai ‹_› ?_|refine qah ‹_› ?_|refine pkT ‹_› ?_|refine qaa ‹_› ?_|refine qao ‹_› ?_|refine qap ‹_› ?_|refine pkF ‹_› ?_|refine qac ‹_› ?_|refine qai (gff ‹_›) ?_|refine qah (gff ‹_›) ?_|refine pkT (gff ‹_›) ?_|refine qaa (gff ‹_›) ?_|refine qab hC (qaw (gL J i).1 1 40) ?_|refine qab hC (qaw (gL J i).2.1 0 3) ?_|refine qab hC (qaw (gL J i).2.2 1 60) ?_|refine qad hS (by kernel_rfl) ?_);conv => whnf)
      exact ⟨i + 1,⟨hi2,fun j h => by
       by_cases e:j = i
       ·rw [e];exact ⟨p0,p1,p2⟩
       ·exact hjJ j (by omega)⟩,by omega,Nat.le_refl _,(zhg 0)⟩
     ·have c2:(!decide (1 ≤ (gL J i).2.2 ∧ (gL J i).2.2 ≤ 60)) = true :=nt_f (decide_eq_false p2)
      try have z11:=qa3 hi2
      try have z12:=qav hi2
      repeat ((first|refine qaf (nthP g0) ?_|refine qaf (nthP g1) ?_|refine qaf (nthP g2) ?_|refine qai ‹_› ?_|refine qah ‹_› ?_|refine pkT ‹_› ?_|refine qaa ‹_› ?_|refine qao ‹_› ?_|refine qap ‹_› ?_|refine pkF ‹_› ?_|refine qac ‹_› ?_|refine qai (gff ‹_›) ?_|refine qah (gff ‹_›) ?_|refine pkT (gff ‹_›) ?_|refine qaa (gff ‹_›) ?_|refine qao (gft ‹_›) ?_|refine qap (gft ‹_›) ?_|refine pkF (gft ‹_›) ?_|refine qac (gft ‹_›) ?_|refine qab hC (qaw (gL J i).1 1 40) ?_|refine qab hC (qaw (gL J i).2.1 0 3) ?_|refine qab hC (qaw (gL J i).2.2 1 60) ?_|refine qad hS (by kernel_rfl) ?_);conv => whnf)
      exact ⟨_,rfl,wkb ((bad (fun z => p2 z.2.2)).symm.trans hB)⟩
    ·have c1:(!decide (0 ≤ (gL J i).2.1 ∧ (gL J i).2.1 ≤ 3)) = true :=nt_f (decide_eq_false p1)
     try have z13:=qa3 hi2
     try have z14:=qav hi2
     repeat ((first|refine qaf (nthP g0) ?_|refine qaf (nthP g1) ?_|refine qaf (nthP g2) ?_|refine qai ‹_› ?_|refine qah ‹_› ?_|refine pkT ‹_› ?_|refine qaa ‹_› ?_|refine qao ‹_› ?_|refine qap ‹_› ?_|refine pkF ‹_› ?_|refine qac ‹_› ?_|refine qai (gff ‹_›) ?_|refine qah (gff ‹_›) ?_|refine pkT (gff ‹_›) ?_|refine qaa (gff ‹_›) ?_|refine qao (gft ‹_›) ?_|refine qap (gft ‹_›) ?_|refine pkF (gft ‹_›) ?_|refine qac (gft ‹_›) ?_|refine qab hC (qaw (gL J i).1 1 40) ?_|refine qab hC (qaw (gL J i).2.1 0 3) ?_|refine qab hC (qaw (gL J i).2.2 1 60) ?_|refine qad hS (by kernel_rfl) ?_);conv => whnf)
     exact ⟨_,rfl,wkb ((bad (fun z => p1 z.2.1)).symm.trans hB)⟩
   ·have c0:(!decide (1 ≤ (gL J i).1 ∧ (gL J i).1 ≤ 40)) = true :=nt_f (decide_eq_false p0)
    try have z15:=qa3 hi2
    try have z16:=qav hi2
    repeat ((first|refine qaf (nthP g0) ?_|refine qaf (nthP g1) ?_|refine qaf (nthP g2) ?_|refine qai ‹_› ?_|refine qah ‹_› ?_|refine pkT ‹_› ?_|refine qaa ‹_› ?_|refine qao ‹_› ?_|refine qap ‹_› ?_|refine pkF ‹_› ?_|refine qac ‹_› ?_|refine qao (gft ‹_›) ?_|refine qap (gft ‹_›) ?_|refine pkF (gft ‹_›) ?_|refine qac (gft ‹_›) ?_|refine qab hC (qaw (gL J i).1 1 40) ?_|refine qab hC (qaw (gL J i).2.1 0 3) ?_|refine qab hC (qaw (gL J i).2.2 1 60) ?_|refine qad hS (by kernel_rfl) ?_);conv => whnf)
    exact ⟨_,rfl,wkb ((bad (fun z => p0 z.1)).symm.trans hB)⟩
  ·refine qac (qbn hi2) ?_
   conv => whnf
   refine .inl ?_
   conv => whnf
   have haJ:∀ j,j < J.length → okJ (gL J j) :=fun j h => hjJ j (by omega)
   clear hi hi2 hjJ
   by_cases q1:1 ≤ W.length ∧ W.length ≤ 3
   ·have k1:decide (1 ≤ (W.length:Int) ∧ (W.length:Int) ≤ 3) = true :=decide_eq_true (by omega)
    have e:decide (1 ≤ (J.length:Int) ∧ (J.length:Int) ≤ 6) = B :=by
     rw [← hB]
     refine decide_eq_decide.2 ⟨fun z => ⟨⟨q1,haW⟩,by omega,haJ⟩,fun z => ?_⟩
     have :=z.2.1
     omega
    rw [← e]
    repeat ((first|refine qai k1 ?_|refine qah k1 ?_|refine pkT k1 ?_|refine qaa k1 ?_|refine qai (qaj k1) ?_|refine qah (qaj k1) ?_|refine pkT (qaj k1) ?_|refine qaa (qaj k1) ?_|refine qab hC (qaw (W.length:Int) 1 3) ?_|refine qab hC (qaw (J.length:Int) 1 6) ?_|refine qad hS (by kernel_rfl) ?_);conv => whnf)
    exact ⟨_,rfl,Wk.refl _⟩
   ·have k1:decide (1 ≤ (W.length:Int) ∧ (W.length:Int) ≤ 3) = false :=decide_eq_false (by omega)
    rw [← hB,decide_eq_false (show ¬ (areW W ∧ areJ J) from fun z => q1 z.1.1)]
    repeat ((first|refine qao k1 ?_|refine qap k1 ?_|refine pkF k1 ?_|refine qac k1 ?_|refine qao (qay k1) ?_|refine qap (qay k1) ?_|refine pkF (qay k1) ?_|refine qac (qay k1) ?_|refine qab hC (qaw (W.length:Int) 1 3) ?_|refine qab hC (qaw (J.length:Int) 1 6) ?_|refine qad hS (by kernel_rfl) ?_);conv => whnf)
    exact ⟨_,rfl,Wk.refl _⟩
theorem quq {W:List LkI} (hw:W.length ≤ 5):Pure prog 26 [lkA W,.nils] (.bool (decide (areW W ∧ areJ []))) :=by
 obtain ⟨B,hB⟩ : ∃ B,decide (areW W ∧ areJ []) = B :=⟨_,rfl⟩
 rw [hB]
 have lW :=qau W
 refine qas hE rfl (by repeat' first|exact trivial|assumption|exact qag _|exact fun _ h => nomatch h|apply And.intro) (by repeat' first|exact trivial|assumption|exact qag _|exact fun _ h => nomatch h|apply And.intro) fun S q pc hS hq hC hE => ?_
 conv => whnf
 refine qa4 hE hS (A :=Nat) [0,1] (fun i => [(5,nv i)]) (fun _ => []) (fun _ => []) (fun i => i ≤ W.length ∧ ∀ j,j < i → okW (gL W j)) (fun i => W.length - i) 0 (kle rfl) rfl (zhg 0) ⟨Nat.zero_le _,fun _ h => absurd h (Nat.not_lt_zero _)⟩ ?_
 intro i ⟨hi,hjW⟩ K hK
 obtain rfl:K = 0 :=hK
 conv => whnf
 by_cases hi2:i < W.length
 ·have g0 :=qbf W i hi2
  have g1 :=qb9 W i hi2
  have g2 :=qck W i hi2
  have bad:¬ okW (gL W i) → decide (areW W ∧ areJ []) = false :=fun z => decide_eq_false fun k => z (k.1.2 i hi2)
  have hi1:IntKind.i64.wrap (Int.ofNat i + 1) = Int.ofNat (i + 1) :=qa7 (m :=i + 1) (by omega)
  by_cases p0:(0 ≤ (gL W i).1 ∧ (gL W i).1 ≤ 3)
  ·have c0:(!decide (0 ≤ (gL W i).1 ∧ (gL W i).1 ≤ 3)) = false :=nt_t (decide_eq_true p0)
   by_cases p1:(1 ≤ (gL W i).2.1 ∧ (gL W i).2.1 ≤ 12)
   ·have c1:(!decide (1 ≤ (gL W i).2.1 ∧ (gL W i).2.1 ≤ 12)) = false :=nt_t (decide_eq_true p1)
    by_cases p2:(0 ≤ (gL W i).2.2 ∧ (gL W i).2.2 ≤ 100)
    ·have c2:(!decide (0 ≤ (gL W i).2.2 ∧ (gL W i).2.2 ≤ 100)) = false :=nt_t (decide_eq_true p2)
     try have z17:=qa3 hi2
     try have z18:=qav hi2
     repeat ((first|refine qaf (nthP g0) ?_|refine qaf (nthP g1) ?_|refine qaf (nthP g2) ?_|refine qai ‹_› ?_|refine qah ‹_› ?_|refine pkT ‹_› ?_|refine qaa ‹_› ?_|refine qao ‹_› ?_|refine qap ‹_› ?_|refine pkF ‹_› ?_|refine qac ‹_› ?_|refine qai (gff ‹_›) ?_|refine qah (gff ‹_›) ?_|refine pkT (gff ‹_›) ?_|refine qaa (gff ‹_›) ?_|refine qab hC (qaw (gL W i).1 0 3) ?_|refine qab hC (qaw (gL W i).2.1 1 12) ?_|refine qab hC (qaw (gL W i).2.2 0 100) ?_|refine qad hS (by kernel_rfl) ?_);conv => whnf)
     exact ⟨i + 1,⟨hi2,fun j h => by
      by_cases e:j = i
      ·rw [e];exact ⟨p0,p1,p2⟩
      ·exact hjW j (by omega)⟩,by omega,Nat.le_refl _,(zhg 0)⟩
    ·have c2:(!decide (0 ≤ (gL W i).2.2 ∧ (gL W i).2.2 ≤ 100)) = true :=nt_f (decide_eq_false p2)
     try have z19:=qa3 hi2
     try have z20:=qav hi2
     repeat ((first|refine qaf (nthP g0) ?_|refine qaf (nthP g1) ?_|refine qaf (nthP g2) ?_|refine qai ‹_› ?_|refine qah ‹_› ?_|refine pkT ‹_› ?_|refine qaa ‹_› ?_|refine qao ‹_› ?_|refine qap ‹_› ?_|refine pkF ‹_› ?_|refine qac ‹_› ?_|refine qai (gff ‹_›) ?_|refine qah (gff ‹_›) ?_|refine pkT (gff ‹_›) ?_|refine qaa (gff ‹_›) ?_|refine qao (gft ‹_›) ?_|refine qap (gft ‹_›) ?_|refine pkF (gft ‹_›) ?_|refine qac (gft ‹_›) ?_|refine qab hC (qaw (gL W i).1 0 3) ?_|refine qab hC (qaw (gL W i).2.1 1 12) ?_|refine qab hC (qaw (gL W i).2.2 0 100) ?_|refine qad hS (by kernel_rfl) ?_);conv => whnf)
     exact ⟨_,rfl,wkb ((bad (fun z => p2 z.2.2)).symm.trans hB)⟩
   ·have c1:(!decide (1 ≤ (gL W i).2.1 ∧ (gL W i).2.1 ≤ 12)) = true :=nt_f (decide_eq_false p1)
    try have z21:=qa3 hi2
    try have z22:=qav hi2
    repeat ((first|refine qaf (nthP g0) ?_|refine qaf (nthP g1) ?_|refine qaf (nthP g2) ?_|refine qai ‹_› ?_|refine qah ‹_› ?_|refine pkT ‹_› ?_|refine qaa ‹_› ?_|refine qao ‹_› ?_|refine qap ‹_› ?_|refine pkF ‹_› ?_|refine qac ‹_› ?_|refine qai (gff ‹_›) ?_|refine qah (gff ‹_›) ?_|refine pkT (gff ‹_›) ?_|refine qaa (gff ‹_›) ?_|refine qao (gft ‹_›) ?_|refine qap (gft ‹_›) ?_|refine pkF (gft ‹_›) ?_|refine qac (gft ‹_›) ?_|refine qab hC (qaw (gL W i).1 0 3) ?_|refine qab hC (qaw (gL W i).2.1 1 12) ?_|refine qab hC (qaw (gL W i).2.2 0 100) ?_|refine qad hS (by kernel_rfl) ?_);conv => whnf)
    exact ⟨_,rfl,wkb ((bad (fun z => p1 z.2.1)).symm.trans hB)⟩
  ·have c0:(!decide (0 ≤ (gL W i).1 ∧ (gL W i).1 ≤ 3)) = true :=nt_f (decide_eq_false p0)
   try have z23:=qa3 hi2
   try have z24:=qav hi2
   repeat ((first|refine qaf (nthP g0) ?_|refine qaf (nthP g1) ?_|refine qaf (nthP g2) ?_|refine qai ‹_› ?_|refine qah ‹_› ?_|refine pkT ‹_› ?_|refine qaa ‹_› ?_|refine qao ‹_› ?_|refine qap ‹_› ?_|refine pkF ‹_› ?_|refine qac ‹_› ?_|refine qao (gft ‹_›) ?_|refine qap (gft ‹_›) ?_|refine pkF (gft ‹_›) ?_|refine qac (gft ‹_›) ?_|refine qab hC (qaw (gL W i).1 0 3) ?_|refine qab hC (qaw (gL W i).2.1 1 12) ?_|refine qab hC (qaw (gL W i).2.2 0 100) ?_|refine qad hS (by kernel_rfl) ?_);conv => whnf)
   exact ⟨_,rfl,wkb ((bad (fun z => p0 z.1)).symm.trans hB)⟩
 ·refine qac (qbn hi2) ?_
  conv => whnf
  refine .inl ?_
  conv => whnf
  have haW:∀ j,j < W.length → okW (gL W j) :=fun j h => hjW j (by omega)
  clear hi hi2 hjW
  refine qam hE hS ?_
  conv => whnf
  rw [← hB,decide_eq_false (show ¬ (areW W ∧ areJ []) from fun z => absurd z.2.1.1 (by decide))]
  by_cases q1:1 ≤ W.length ∧ W.length ≤ 3
  ·have k1:decide (1 ≤ (W.length:Int) ∧ (W.length:Int) ≤ 3) = true :=decide_eq_true (by omega)
   repeat ((first|refine qai k1 ?_|refine qah k1 ?_|refine pkT k1 ?_|refine qaa k1 ?_|refine qai (qaj k1) ?_|refine qah (qaj k1) ?_|refine pkT (qaj k1) ?_|refine qaa (qaj k1) ?_|refine qab hC (qaw (W.length:Int) 1 3) ?_|refine qab hC (qaw 0 1 6) ?_|refine qad hS (by kernel_rfl) ?_);conv => whnf)
   exact ⟨_,rfl,Wk.refl _⟩
  ·have k1:decide (1 ≤ (W.length:Int) ∧ (W.length:Int) ≤ 3) = false :=decide_eq_false (by omega)
   repeat ((first|refine qao k1 ?_|refine qap k1 ?_|refine pkF k1 ?_|refine qac k1 ?_|refine qao (qay k1) ?_|refine qap (qay k1) ?_|refine pkF (qay k1) ?_|refine qac (qay k1) ?_|refine qab hC (qaw (W.length:Int) 1 3) ?_|refine qab hC (qaw 0 1 6) ?_|refine qad hS (by kernel_rfl) ?_);conv => whnf)
   exact ⟨_,rfl,Wk.refl _⟩
theorem qup {J:List LkI} (hj:J.length ≤ 8):Pure prog 26 [.nils,lkA J] (.bool (decide (areW [] ∧ areJ J))) :=by
 obtain ⟨B,hB⟩ : ∃ B,decide (areW [] ∧ areJ J) = B :=⟨_,rfl⟩
 have hF:decide (areW [] ∧ areJ J) = false :=decide_eq_false fun z => absurd z.1.1.1 (by decide)
 have k1:decide (1 ≤ (0:Int) ∧ (0:Int) ≤ 3) = false :=by decide
 rw [hB]
 have lJ :=qau J
 refine qas hE rfl (by repeat' first|exact trivial|assumption|exact qag _|exact fun _ h => nomatch h|apply And.intro) (by repeat' first|exact trivial|assumption|exact qag _|exact fun _ h => nomatch h|apply And.intro) fun S q pc hS hq hC hE => ?_
 conv => whnf
 refine qam hE hS ?_
 conv => whnf
 refine qa4 hE hS (A :=Nat) [0,1] (fun i => [(6,nv i)]) (fun _ => []) (fun _ => []) (fun i => i ≤ J.length ∧ ∀ j,j < i → okJ (gL J j)) (fun i => J.length - i) 0 (kle rfl) rfl (zhg 0) ⟨Nat.zero_le _,fun _ h => absurd h (Nat.not_lt_zero _)⟩ ?_
 intro i ⟨hi,hjJ⟩ K hK
 obtain rfl:K = 0 :=hK
 conv => whnf
 by_cases hi2:i < J.length
 ·have g0 :=qbf J i hi2
  have g1 :=qb9 J i hi2
  have g2 :=qck J i hi2
  have bad:¬ okJ (gL J i) → decide (areW [] ∧ areJ J) = false :=fun z => decide_eq_false fun k => z (k.2.2 i hi2)
  have hi1:IntKind.i64.wrap (Int.ofNat i + 1) = Int.ofNat (i + 1) :=qa7 (m :=i + 1) (by omega)
  by_cases p0:(1 ≤ (gL J i).1 ∧ (gL J i).1 ≤ 40)
  ·have c0:(!decide (1 ≤ (gL J i).1 ∧ (gL J i).1 ≤ 40)) = false :=nt_t (decide_eq_true p0)
   by_cases p1:(0 ≤ (gL J i).2.1 ∧ (gL J i).2.1 ≤ 3)
   ·have c1:(!decide (0 ≤ (gL J i).2.1 ∧ (gL J i).2.1 ≤ 3)) = false :=nt_t (decide_eq_true p1)
    by_cases p2:(1 ≤ (gL J i).2.2 ∧ (gL J i).2.2 ≤ 60)
    ·have c2:(!decide (1 ≤ (gL J i).2.2 ∧ (gL J i).2.2 ≤ 60)) = false :=nt_t (decide_eq_true p2)
     try have z25:=qa3 hi2
     try have z26:=qav hi2
     repeat ((first|refine qaf (nthP g0) ?_|refine qaf (nthP g1) ?_|refine qaf (nthP g2) ?_|refine qai ‹_› ?_|refine qah ‹_› ?_|refine pkT ‹_› ?_|refine qaa ‹_› ?_|refine qao ‹_› ?_|refine qap ‹_› ?_|refine pkF ‹_› ?_|refine qac ‹_› ?_|refine qai (gff ‹_›) ?_|refine qah (gff ‹_›) ?_|refine pkT (gff ‹_›) ?_|refine qaa (gff ‹_›) ?_|refine qab hC (qaw (gL J i).1 1 40) ?_|refine qab hC (qaw (gL J i).2.1 0 3) ?_|refine qab hC (qaw (gL J i).2.2 1 60) ?_|refine qad hS (by kernel_rfl) ?_);conv => whnf)
     exact ⟨i + 1,⟨hi2,fun j h => by
      by_cases e:j = i
      ·rw [e];exact ⟨p0,p1,p2⟩
      ·exact hjJ j (by omega)⟩,by omega,Nat.le_refl _,(zhg 0)⟩
    ·have c2:(!decide (1 ≤ (gL J i).2.2 ∧ (gL J i).2.2 ≤ 60)) = true :=nt_f (decide_eq_false p2)
     try have z27:=qa3 hi2
     try have z28:=qav hi2
     repeat ((first|refine qaf (nthP g0) ?_|refine qaf (nthP g1) ?_|refine qaf (nthP g2) ?_|refine qai ‹_› ?_|refine qah ‹_› ?_|refine pkT ‹_› ?_|refine qaa ‹_› ?_|refine qao ‹_› ?_|refine qap ‹_› ?_|refine pkF ‹_› ?_|refine qac ‹_› ?_|refine qai (gff ‹_›) ?_|refine qah (gff ‹_›) ?_|refine pkT (gff ‹_›) ?_|refine qaa (gff ‹_›) ?_|refine qao (gft ‹_›) ?_|refine qap (gft ‹_›) ?_|refine pkF (gft ‹_›) ?_|refine qac (gft ‹_›) ?_|refine qab hC (qaw (gL J i).1 1 40) ?_|refine qab hC (qaw (gL J i).2.1 0 3) ?_|refine qab hC (qaw (gL J i).2.2 1 60) ?_|refine qad hS (by kernel_rfl) ?_);conv => whnf)
     exact ⟨_,rfl,wkb ((bad (fun z => p2 z.2.2)).symm.trans hB)⟩
   ·have c1:(!decide (0 ≤ (gL J i).2.1 ∧ (gL J i).2.1 ≤ 3)) = true :=nt_f (decide_eq_false p1)
    try have z29:=qa3 hi2
    try have z30:=qav hi2
    repeat ((first|refine qaf (nthP g0) ?_|refine qaf (nthP g1) ?_|refine qaf (nthP g2) ?_|refine qai ‹_› ?_|refine qah ‹_› ?_|refine pkT ‹_› ?_|refine qaa ‹_› ?_|refine qao ‹_› ?_|refine qap ‹_› ?_|refine pkF ‹_› ?_|refine qac ‹_› ?_|refine qai (gff ‹_›) ?_|refine qah (gff ‹_›) ?_|refine pkT (gff ‹_›) ?_|refine qaa (gff ‹_›) ?_|refine qao (gft ‹_›) ?_|refine qap (gft ‹_›) ?_|refine pkF (gft ‹_›) ?_|refine qac (gft ‹_›) ?_|refine qab hC (qaw (gL J i).1 1 40) ?_|refine qab hC (qaw (gL J i).2.1 0 3) ?_|refine qab hC (qaw (gL J i).2.2 1 60) ?_|refine qad hS (by kernel_rfl) ?_);conv => whnf)
    exact ⟨_,rfl,wkb ((bad (fun z => p1 z.2.1)).symm.trans hB)⟩
  ·have c0:(!decide (1 ≤ (gL J i).1 ∧ (gL J i).1 ≤ 40)) = true :=nt_f (decide_eq_false p0)
   try have z31:=qa3 hi2
   try have z32:=qav hi2
   repeat ((first|refine qaf (nthP g0) ?_|refine qaf (nthP g1) ?_|refine qaf (nthP g2) ?_|refine qai ‹_› ?_|refine qah ‹_› ?_|refine pkT ‹_› ?_|refine qaa ‹_› ?_|refine qao ‹_› ?_|refine qap ‹_› ?_|refine pkF ‹_› ?_|refine qac ‹_› ?_|refine qao (gft ‹_›) ?_|refine qap (gft ‹_›) ?_|refine pkF (gft ‹_›) ?_|refine qac (gft ‹_›) ?_|refine qab hC (qaw (gL J i).1 1 40) ?_|refine qab hC (qaw (gL J i).2.1 0 3) ?_|refine qab hC (qaw (gL J i).2.2 1 60) ?_|refine qad hS (by kernel_rfl) ?_);conv => whnf)
   exact ⟨_,rfl,wkb ((bad (fun z => p0 z.1)).symm.trans hB)⟩
 ·refine qac (qbn hi2) ?_
  conv => whnf
  refine .inl ?_
  conv => whnf
  have haJ:∀ j,j < J.length → okJ (gL J j) :=fun j h => hjJ j (by omega)
  clear hi hi2 hjJ
  repeat ((first|refine qao k1 ?_|refine qap k1 ?_|refine pkF k1 ?_|refine qac k1 ?_|refine qao (qay k1) ?_|refine qap (qay k1) ?_|refine pkF (qay k1) ?_|refine qac (qay k1) ?_|refine qab hC (qaw 0 1 3) ?_|refine qad hS (by kernel_rfl) ?_);conv => whnf)
  rw [← hB,hF]
  exact ⟨_,rfl,Wk.refl _⟩
theorem qun:Pure prog 26 [.nils,.nils] (.bool (decide (areW [] ∧ areJ []))) :=by
 rw [decide_eq_false (show ¬ (areW [] ∧ areJ []) from fun z => absurd z.1.1.1 (by decide))]
 have k1:decide (1 ≤ (0:Int) ∧ (0:Int) ≤ 3) = false :=by decide
 refine qas hE rfl (by repeat' first|exact trivial|assumption|exact qag _|exact fun _ h => nomatch h|apply And.intro) (by repeat' first|exact trivial|assumption|exact qag _|exact fun _ h => nomatch h|apply And.intro) fun S q pc hS hq hC hE => ?_
 conv => whnf
 refine qam hE hS ?_
 conv => whnf
 refine qam hE hS ?_
 conv => whnf
 repeat ((first|refine qao k1 ?_|refine qap k1 ?_|refine pkF k1 ?_|refine qac k1 ?_|refine qao (qay k1) ?_|refine qap (qay k1) ?_|refine pkF (qay k1) ?_|refine qac (qay k1) ?_|refine qab hC (qaw 0 1 3) ?_|refine qad hS (by kernel_rfl) ?_);conv => whnf)
 exact ⟨_,rfl,Wk.refl _⟩
theorem qe3 {x y:AV} {W J:List LkI} (hx:LL x W) (hy:LL y J) (hw:W.length ≤ 5) (hj:J.length ≤ 8):Pure prog 26 [x,y] (.bool (decide (areW W ∧ areJ J))) :=by
 rcases hx with ⟨rfl,rfl⟩ | rfl <;> rcases hy with ⟨rfl,rfl⟩ | rfl
 ·exact qun
 ·exact qup hj
 ·exact quq hw
 ·exact qur hw hj
def qqg (W J:List LkI) (P:List Int) (i:Nat):Prop :=(0 ≤ gi P i ∧ gi P i ≤ (W.length:Int) - 1) ∧ (gL J i).2.1 ≤ (gL W (gi P i).toNat).1
def isPl (W J:List LkI) (P:List Int):Prop :=P.length = J.length ∧ ∀ i,i < P.length → qqg W J P i
instance (W J:List LkI) (P:List Int):Decidable (isPl W J P) :=Classical.propDecidable _
def wgJ (W J:List LkI) (P:List Int):Nat → Int
 | 0 => 0
 |i + 1 => wgJ W J P i + (gL J i).1 * (gL W (gi P i).toNat).2.2
theorem qqv {W J:List LkI} {P:List Int} (hW:areW W) (hJ:areJ J) (h:isPl W J P):∀ i,i ≤ P.length → 0 ≤ wgJ W J P i ∧ wgJ W J P i ≤ (i:Int) * 4000
 | 0,_ => ⟨Int.le_refl _,by simp [wgJ]⟩
 |i + 1,hi => by
  have ih :=qqv hW hJ h i (by omega)
  have hp :=(h.2 i hi).1
  have hj :=(hJ.2 i (by have :=h.1;omega)).1
  have hw :=(hW.2 (gi P i).toNat (by omega)).2.2
  have m1 :=Int.mul_nonneg (show 0 ≤ (gL J i).1 by omega) hw.1
  have m2 :=Int.mul_le_mul hj.2 hw.2 hw.1 (by decide)
  rw [wgJ]
  omega
def bfrJ (J:List LkI) (i k:Nat):Prop :=(gL J k).2.2 < (gL J i).2.2 ∨ (gL J k).2.2 = (gL J i).2.2 ∧ k ≤ i
instance (J:List LkI) (i k:Nat):Decidable (bfrJ J i k) :=inferInstanceAs (Decidable (_ ∨ _ ∧ _))
def hrN (J:List LkI) (P:List Int) (i:Nat):Nat → Nat
 | 0 => 0
 |k + 1 => hrN J P i k + if gi P k = gi P i ∧ bfrJ J i k then (gL J k).1.toNat else 0
def dyN (W J:List LkI) (P:List Int) (i:Nat):Nat :=(hrN J P i J.length + (gL W (gi P i).toNat).2.1.toNat - 1) / (gL W (gi P i).toNat).2.1.toNat
def dnT (W J:List LkI) (P:List Int) (i:Nat):List Int :=(List.range i).map fun j => Int.ofNat (dyN W J P j)
abbrev dnL (W J:List LkI) (P:List Int):List Int :=dnT W J P J.length
theorem qgq (W J:List LkI) (P:List Int) (i:Nat):(dnT W J P i).length = i :=by unfold dnT;rw [List.length_map,List.length_range]
theorem qwc {J:List LkI} (hJ:areJ J) (P:List Int) (i:Nat):∀ k,k ≤ J.length → hrN J P i k ≤ k * 40
 | 0,_ => Nat.le_refl _
 |k + 1,h => by
  have ih :=qwc hJ P i k (by omega)
  have :=(hJ.2 k h).1
  rw [hrN]
  split <;> omega
end
end Go.Abs.Seat
