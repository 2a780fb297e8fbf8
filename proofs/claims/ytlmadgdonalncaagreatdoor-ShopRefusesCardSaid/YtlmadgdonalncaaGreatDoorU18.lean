/-
  Jobs that are left, as the document says.
-/
import Derived.Test.YtlmadgdonalncaaGreatDoorU11
import Derived.Test.YtlmadgdonalncaaGreatDoorU16
import Derived.Test.YtlmadgdonalncaaGreatDoorU17
import Derived.Test.YtlmadgdonalncaaGreatDoorB61
import Derived.Test.YtlmadgdonalncaaGreatDoorU7
import Derived.Test.YtlmadgdonalncaaGreatDoorU6
import Derived.Test.YtlmadgdonalncaaGreatDoorU10
import Derived.Test.YtlmadgdonalncaaGreatDoorU5
import Derived.Test.YtlmadgdonalncaaGreatDoorU12
namespace Go.Abs.Seat
noncomputable section
open Go Go.Abs Go.Proofs.Tryz
set_option maxRecDepth 100000
set_option maxHeartbeats 40000000
attribute [local irreducible] IntKind.wrap pEq
def isG (G:List Int) (x:Int):Nat → Bool
 | 0 => false
 |k + 1 => isG G x k || (gi G k == x)
def rsT (J:List LkI) (G:List Int):Nat → List LkI
 | 0 => []
 |i + 1 => rsT J G i ++ if isG G (Int.ofNat i) G.length = true then [] else [gL J i]
theorem qmx (J:List LkI) (G:List Int):∀ i,(rsT J G i).length ≤ i
 | 0 => Nat.le_refl _
 |i + 1 => by
  have :=qmx J G i
  rw [rsT,List.length_append]
  split
  ·simp only [List.length_nil];omega
  ·simp only [List.length_cons,List.length_nil];omega
def rsV (J:List LkI) (G:List Int):AV :=if rsT J G J.length = [] then .nils else lkA (rsT J G J.length)
theorem qwl (J:List LkI) (G:List Int):Live noL (rsV J G) :=by
 unfold rsV
 split
 ·trivial
 ·exact lkA_no _
theorem qfg (l:List LkI) {c n:Nat} (h:c + 1 ≤ n):bd (.lst (lks l) l.length (.ch c)) ≤ n :=Nat.max_le.2 ⟨h,qag (qa0 _)⟩
theorem qpd (l:List LkI):qby (lks l) (l.length * 3) = true :=by
 induction l with
 |nil => rfl
 |cons x r ih => rw [List.length_cons,show (r.length + 1) * 3 = r.length * 3 + 1 + 1 + 1 by omega];exact ih
theorem qx2 {J:List LkI} {G:List Int} (hJ:J.length ≤ 8) (hG:G.length ≤ 8):Pure prog 81 [lkA J,nl G] (rsV J G) :=by
 have lJ :=qa0 J
 have lG :=qat G
 have lR :=qwl J G
 refine qan hE rfl (by repeat' first|exact trivial|assumption|exact qaf _|exact fun _ h => nomatch h|apply And.intro) (by repeat' first|exact trivial|assumption|exact qaf _|exact fun _ h => nomatch h|apply And.intro) fun S q pc hS hq hC hE => ?_
 conv => whnf
 refine qaw hE hS (A :=Nat × AV × List AObj) [0,1] (fun (i,v,_) => [(5,v),(6,nv i)]) (fun _ => []) (fun a => a.2.2) (fun (i,v,ux) => i ≤ J.length ∧ (rsT J G i = [] ∧ v = .nils ∧ ux = [] ∨ rsT J G i ≠ [] ∧ v = .lst (lks (rsT J G i)) (rsT J G i).length (.ch 0) ∧ ux = [.chain (rsT J G i).length 3 53])) (fun (i,_,_) => J.length - i) (0,.nils,[]) (kle rfl) rfl (zhg 0) ⟨Nat.zero_le _,.inl ⟨rfl,rfl,rfl⟩⟩ ?_
 rintro ⟨i,v,ux⟩ ⟨hi,⟨he,rfl,rfl⟩ | ⟨he,rfl,rfl⟩⟩ N hN
 ·obtain rfl:N = 0 :=hN
  conv => whnf
  by_cases hi2:i < J.length
  ·have hi1:IntKind.i64.wrap (Int.ofNat i + 1) = Int.ofNat (i + 1) :=qa1 (m :=i + 1) (by omega)
   refine qaa (qau hi2) ?_
   conv => whnf
   refine qaw hE hS (A :=Nat) [0,1,5,6] (fun k => [(7,.bool (isG G (Int.ofNat i) k)),(8,nv k)]) (fun _ => []) (fun _ => []) (fun k => k ≤ G.length) (fun k => G.length - k) 0 (kle rfl) rfl (zhg 0) (Nat.zero_le _) ?_
   intro k hk Q hQ
   obtain rfl:Q = 0 :=hQ
   conv => whnf
   by_cases hk2:k < G.length
   ·have hk1:IntKind.i64.wrap (Int.ofNat k + 1) = Int.ofNat (k + 1) :=qa1 (m :=k + 1) (by omega)
    have gk :=qa8 (l :=G) (i :=k) hk2
    by_cases q0:isG G (Int.ofNat i) k = true
    ·have c0:isG G (Int.ofNat i) k = true :=q0
     have hb:true = isG G (Int.ofNat i) (k + 1) :=by rw [isG,c0];rfl
     try have z132:=qau hk2
     repeat ((first|refine qak ‹_› ?_|refine qaj ‹_› ?_|refine pkT ‹_› ?_|refine qaa ‹_› ?_|refine qap ‹_› ?_|refine qaq ‹_› ?_|refine pkF ‹_› ?_|refine qab ‹_› ?_|refine qap (gft ‹_›) ?_|refine qaq (gft ‹_›) ?_|refine pkF (gft ‹_›) ?_|refine qab (gft ‹_›) ?_|refine qad hS (by kernel_rfl) ?_);conv => whnf)
     exact ⟨k + 1,hk2,by omega,Nat.le_refl _,(zhg 0)⟩
    ·have c0:isG G (Int.ofNat i) k = false :=Bool.eq_false_iff.2 q0
     have hb:(gi G k == Int.ofNat i) = isG G (Int.ofNat i) (k + 1) :=by rw [isG,c0];rfl
     try have z133:=qau hk2
     try have z134:=qal hk2
     repeat ((first|refine qae (nthP gk) ?_|refine qak ‹_› ?_|refine qaj ‹_› ?_|refine pkT ‹_› ?_|refine qaa ‹_› ?_|refine qap ‹_› ?_|refine qaq ‹_› ?_|refine pkF ‹_› ?_|refine qab ‹_› ?_|refine qak (gff ‹_›) ?_|refine qaj (gff ‹_›) ?_|refine pkT (gff ‹_›) ?_|refine qaa (gff ‹_›) ?_|refine qad hS (by kernel_rfl) ?_);conv => whnf)
     exact ⟨k + 1,hk2,by omega,Nat.le_refl _,(zhg 0)⟩
   ·refine qab (qa6 hk2) ?_
    conv => whnf
    refine .inl ?_
    conv => whnf
    have ek:k = G.length :=by omega
    rw [ek]
    by_cases qI:isG G (Int.ofNat i) G.length = true
    ·have c1:(!isG G (Int.ofNat i) G.length) = false :=nt_t qI
     have e1:rsT J G (i + 1) = [] :=by rw [rsT,if_pos qI,he];rfl
     repeat ((first|refine qap c1 ?_|refine qaq c1 ?_|refine pkF c1 ?_|refine qab c1 ?_|refine qad hS (by kernel_rfl) ?_);conv => whnf)
     exact ⟨(i + 1,.nils,[]),⟨hi2,.inl ⟨e1,rfl,rfl⟩⟩,by show J.length - (i + 1) < J.length - i;omega,Nat.le_refl _,(zhg 0)⟩
    ·have c1:(!isG G (Int.ofNat i) G.length) = true :=nt_f (Bool.eq_false_iff.2 qI)
     have e1:rsT J G (i + 1) = [gL J i] :=by rw [rsT,if_neg qI,he];rfl
     have e2:AV.lst [iv (gL J i).1,iv (gL J i).2.1,iv (gL J i).2.2] (0 + 1) (.ch 0) = .lst (lks (rsT J G (i + 1))) (rsT J G (i + 1)).length (.ch 0) :=by rw [e1];rfl
     have e3:AObj.chain (0 + 1) 3 53 = .chain (rsT J G (i + 1)).length 3 53 :=by rw [e1];rfl
     try have z135:=qal hi2
     repeat ((first|refine qae (takP (qc8 J hi2)) ?_|refine qak ‹_› ?_|refine qaj ‹_› ?_|refine pkT ‹_› ?_|refine qaa ‹_› ?_|refine qad hS (by kernel_rfl) ?_);conv => whnf)
     exact ⟨(i + 1,.lst (lks (rsT J G (i + 1))) (rsT J G (i + 1)).length (.ch 0),[.chain (rsT J G (i + 1)).length 3 53]),⟨hi2,.inr ⟨by rw [e1];simp,rfl,rfl⟩⟩,by show J.length - (i + 1) < J.length - i;omega,Nat.zero_le _,(zhg 1)⟩
  ·refine qab (qa6 hi2) ?_
   conv => whnf
   refine .inl ?_
   conv => whnf
   have ei:i = J.length :=by omega
   rw [ei] at he
   have ev:rsV J G = .nils :=if_pos he
   rw [ev]
   exact ⟨_,rfl,Wk.refl _⟩
 ·obtain rfl:N = 1 :=hN
  conv => whnf
  by_cases hi2:i < J.length
  ·have hi1:IntKind.i64.wrap (Int.ofNat i + 1) = Int.ofNat (i + 1) :=qa1 (m :=i + 1) (by omega)
   refine qaa (qau hi2) ?_
   conv => whnf
   refine qaw hE hS (A :=Nat) [0,1,5,6] (fun k => [(7,.bool (isG G (Int.ofNat i) k)),(8,nv k)]) (fun _ => []) (fun _ => []) (fun k => k ≤ G.length) (fun k => G.length - k) 0 (kle rfl) rfl (zhg 1) (Nat.zero_le _) ?_
   intro k hk Q hQ
   obtain rfl:Q = 1 :=hQ
   conv => whnf
   by_cases hk2:k < G.length
   ·have hk1:IntKind.i64.wrap (Int.ofNat k + 1) = Int.ofNat (k + 1) :=qa1 (m :=k + 1) (by omega)
    have gk :=qa8 (l :=G) (i :=k) hk2
    by_cases q0:isG G (Int.ofNat i) k = true
    ·have c0:isG G (Int.ofNat i) k = true :=q0
     have hb:true = isG G (Int.ofNat i) (k + 1) :=by rw [isG,c0];rfl
     try have z136:=qau hk2
     repeat ((first|refine qak ‹_› ?_|refine qaj ‹_› ?_|refine pkT ‹_› ?_|refine qaa ‹_› ?_|refine qap ‹_› ?_|refine qaq ‹_› ?_|refine pkF ‹_› ?_|refine qab ‹_› ?_|refine qap (gft ‹_›) ?_|refine qaq (gft ‹_›) ?_|refine pkF (gft ‹_›) ?_|refine qab (gft ‹_›) ?_|refine qad hS (by kernel_rfl) ?_);conv => whnf)
     exact ⟨k + 1,hk2,by omega,Nat.le_refl _,(zhg 1)⟩
    ·have c0:isG G (Int.ofNat i) k = false :=Bool.eq_false_iff.2 q0
     have hb:(gi G k == Int.ofNat i) = isG G (Int.ofNat i) (k + 1) :=by rw [isG,c0];rfl
     try have z137:=qau hk2
     try have z138:=qal hk2
     repeat ((first|refine qae (nthP gk) ?_|refine qak ‹_› ?_|refine qaj ‹_› ?_|refine pkT ‹_› ?_|refine qaa ‹_› ?_|refine qap ‹_› ?_|refine qaq ‹_› ?_|refine pkF ‹_› ?_|refine qab ‹_› ?_|refine qak (gff ‹_›) ?_|refine qaj (gff ‹_›) ?_|refine pkT (gff ‹_›) ?_|refine qaa (gff ‹_›) ?_|refine qad hS (by kernel_rfl) ?_);conv => whnf)
     exact ⟨k + 1,hk2,by omega,Nat.le_refl _,(zhg 1)⟩
   ·refine qab (qa6 hk2) ?_
    conv => whnf
    refine .inl ?_
    conv => whnf
    have ek:k = G.length :=by omega
    rw [ek]
    have hrl :=qmx J G i
    by_cases qI:isG G (Int.ofNat i) G.length = true
    ·have c1:(!isG G (Int.ofNat i) G.length) = false :=nt_t qI
     have e1:rsT J G (i + 1) = rsT J G i :=by rw [rsT,if_pos qI,List.append_nil]
     have e2:AV.lst (lks (rsT J G i)) (rsT J G i).length (.ch 0) = .lst (lks (rsT J G (i + 1))) (rsT J G (i + 1)).length (.ch 0) :=by rw [e1]
     have e3:AObj.chain (rsT J G i).length 3 53 = .chain (rsT J G (i + 1)).length 3 53 :=by rw [e1]
     repeat ((first|refine qap c1 ?_|refine qaq c1 ?_|refine pkF c1 ?_|refine qab c1 ?_|refine qad hS (by kernel_rfl) ?_);conv => whnf)
     exact ⟨(i + 1,.lst (lks (rsT J G (i + 1))) (rsT J G (i + 1)).length (.ch 0),[.chain (rsT J G (i + 1)).length 3 53]),⟨hi2,.inr ⟨by rw [e1];exact he,rfl,rfl⟩⟩,by show J.length - (i + 1) < J.length - i;omega,Nat.le_refl _,(zhg 1)⟩
    ·have c1:(!isG G (Int.ofNat i) G.length) = true :=nt_f (Bool.eq_false_iff.2 qI)
     have e1:rsT J G (i + 1) = rsT J G i ++ [gL J i] :=by rw [rsT,if_neg qI]
     have e2:AV.lst (lks (rsT J G i) ++ [iv (gL J i).1,iv (gL J i).2.1,iv (gL J i).2.2]) ((rsT J G i).length + (0 + 1)) (.ch 0) = .lst (lks (rsT J G (i + 1))) (rsT J G (i + 1)).length (.ch 0) :=by rw [e1,qh8,List.length_append];rfl
     have e3:AObj.chain ((rsT J G i).length + (0 + 1)) 3 53 = .chain (rsT J G (i + 1)).length 3 53 :=by rw [e1,List.length_append];rfl
     try have z139:=qal hi2
     repeat ((first|refine qae (takP (qc8 J hi2)) ?_|refine qak ‹_› ?_|refine qaj ‹_› ?_|refine pkT ‹_› ?_|refine qaa ‹_› ?_|refine qad hS (by kernel_rfl) ?_);conv => whnf)
     refine qaa (decide_eq_true (show ((rsT J G i).length + (0 + 1)) * 24 ≤ 140737488355328 by omega)) ?_
     conv => whnf
     refine qaa (decide_eq_true (show (rsT J G i).length + (0 + 1) ≤ 9223372036854775807 by omega)) ?_
     conv => whnf
     refine qaa (qpd (rsT J G i)) ?_
     conv => whnf
     refine qaa (decide_eq_true rfl) ?_
     conv => whnf
     exact ⟨(i + 1,.lst (lks (rsT J G (i + 1))) (rsT J G (i + 1)).length (.ch 0),[.chain (rsT J G (i + 1)).length 3 53]),⟨hi2,.inr ⟨by rw [e1];simp,rfl,rfl⟩⟩,by show J.length - (i + 1) < J.length - i;omega,Nat.le_refl _,(zhg 1)⟩
  ·refine qab (qa6 hi2) ?_
   conv => whnf
   refine .inl ?_
   conv => whnf
   have ei:i = J.length :=by omega
   rw [ei] at he ⊢
   have ev:rsV J G = lkA (rsT J G J.length) :=if_neg he
   rw [ev]
   exact ⟨_,rfl,qi0 rfl⟩
theorem qrr {J:List LkI} {G:List Int} (hG0:G = []) (hJ:J.length ≤ 8):Pure prog 81 [lkA J,.nils] (rsV J G) :=by
 have lJ :=qa0 J
 have lG :=qat G
 have lR :=qwl J G
 refine qan hE rfl (by repeat' first|exact trivial|assumption|exact qaf _|exact fun _ h => nomatch h|apply And.intro) (by repeat' first|exact trivial|assumption|exact qaf _|exact fun _ h => nomatch h|apply And.intro) fun S q pc hS hq hC hE => ?_
 conv => whnf
 refine qaw hE hS (A :=Nat × AV × List AObj) [0,1] (fun (i,v,_) => [(5,v),(6,nv i)]) (fun _ => []) (fun a => a.2.2) (fun (i,v,ux) => i ≤ J.length ∧ (rsT J G i = [] ∧ v = .nils ∧ ux = [] ∨ rsT J G i ≠ [] ∧ v = .lst (lks (rsT J G i)) (rsT J G i).length (.ch 0) ∧ ux = [.chain (rsT J G i).length 3 53])) (fun (i,_,_) => J.length - i) (0,.nils,[]) (kle rfl) rfl (zhg 0) ⟨Nat.zero_le _,.inl ⟨rfl,rfl,rfl⟩⟩ ?_
 rintro ⟨i,v,ux⟩ ⟨hi,⟨he,rfl,rfl⟩ | ⟨he,rfl,rfl⟩⟩ N hN
 ·obtain rfl:N = 0 :=hN
  conv => whnf
  by_cases hi2:i < J.length
  ·have hi1:IntKind.i64.wrap (Int.ofNat i + 1) = Int.ofNat (i + 1) :=qa1 (m :=i + 1) (by omega)
   refine qaa (qau hi2) ?_
   conv => whnf
   refine qah hE hS ?_
   conv => whnf
   have hI:isG G (Int.ofNat i) G.length = false :=by rw [hG0];rfl
   have hf:AV.bool false = AV.bool (isG G (Int.ofNat i) G.length) :=by rw [hI]
   have qI:¬ isG G (Int.ofNat i) G.length = true :=by rw [hI];decide
   have c1:(!false) = true :=rfl
   have e1:rsT J G (i + 1) = [gL J i] :=by rw [rsT,if_neg qI,he];rfl
   have e2:AV.lst [iv (gL J i).1,iv (gL J i).2.1,iv (gL J i).2.2] (0 + 1) (.ch 0) = .lst (lks (rsT J G (i + 1))) (rsT J G (i + 1)).length (.ch 0) :=by rw [e1];rfl
   have e3:AObj.chain (0 + 1) 3 53 = .chain (rsT J G (i + 1)).length 3 53 :=by rw [e1];rfl
   try have z140:=qal hi2
   repeat ((first|refine qae (takP (qc8 J hi2)) ?_|refine qak ‹_› ?_|refine qaj ‹_› ?_|refine pkT ‹_› ?_|refine qaa ‹_› ?_|refine qad hS (by kernel_rfl) ?_);conv => whnf)
   exact ⟨(i + 1,.lst (lks (rsT J G (i + 1))) (rsT J G (i + 1)).length (.ch 0),[.chain (rsT J G (i + 1)).length 3 53]),⟨hi2,.inr ⟨by rw [e1];simp,rfl,rfl⟩⟩,by show J.length - (i + 1) < J.length - i;omega,Nat.zero_le _,(zhg 1)⟩
  ·refine qab (qa6 hi2) ?_
   conv => whnf
   refine .inl ?_
   conv => whnf
   have ei:i = J.length :=by omega
   rw [ei] at he
   have ev:rsV J G = .nils :=if_pos he
   rw [ev]
   exact ⟨_,rfl,Wk.refl _⟩
 ·obtain rfl:N = 1 :=hN
  conv => whnf
  by_cases hi2:i < J.length
  ·have hi1:IntKind.i64.wrap (Int.ofNat i + 1) = Int.ofNat (i + 1) :=qa1 (m :=i + 1) (by omega)
   refine qaa (qau hi2) ?_
   conv => whnf
   refine qah hE hS ?_
   conv => whnf
   have hI:isG G (Int.ofNat i) G.length = false :=by rw [hG0];rfl
   have hf:AV.bool false = AV.bool (isG G (Int.ofNat i) G.length) :=by rw [hI]
   have hrl :=qmx J G i
   have qI:¬ isG G (Int.ofNat i) G.length = true :=by rw [hI];decide
   have c1:(!false) = true :=rfl
   have e1:rsT J G (i + 1) = rsT J G i ++ [gL J i] :=by rw [rsT,if_neg qI]
   have e2:AV.lst (lks (rsT J G i) ++ [iv (gL J i).1,iv (gL J i).2.1,iv (gL J i).2.2]) ((rsT J G i).length + (0 + 1)) (.ch 0) = .lst (lks (rsT J G (i + 1))) (rsT J G (i + 1)).length (.ch 0) :=by rw [e1,qh8,List.length_append];rfl
   have e3:AObj.chain ((rsT J G i).length + (0 + 1)) 3 53 = .chain (rsT J G (i + 1)).length 3 53 :=by rw [e1,List.length_append];rfl
   try have z141:=qal hi2
   repeat ((first|refine qae (takP (qc8 J hi2)) ?_|refine qak ‹_› ?_|refine qaj ‹_› ?_|refine pkT ‹_› ?_|refine qaa ‹_› ?_|refine qad hS (by kernel_rfl) ?_);conv => whnf)
   refine qaa (decide_eq_true (show ((rsT J G i).length + (0 + 1)) * 24 ≤ 140737488355328 by omega)) ?_
   conv => whnf
   refine qaa (decide_eq_true (show (rsT J G i).length + (0 + 1) ≤ 9223372036854775807 by omega)) ?_
   conv => whnf
   refine qaa (qpd (rsT J G i)) ?_
   conv => whnf
   refine qaa (decide_eq_true rfl) ?_
   conv => whnf
   exact ⟨(i + 1,.lst (lks (rsT J G (i + 1))) (rsT J G (i + 1)).length (.ch 0),[.chain (rsT J G (i + 1)).length 3 53]),⟨hi2,.inr ⟨by rw [e1];simp,rfl,rfl⟩⟩,by show J.length - (i + 1) < J.length - i;omega,Nat.le_refl _,(zhg 1)⟩
  ·refine qab (qa6 hi2) ?_
   conv => whnf
   refine .inl ?_
   conv => whnf
   have ei:i = J.length :=by omega
   rw [ei] at he ⊢
   have ev:rsV J G = lkA (rsT J G J.length) :=if_neg he
   rw [ev]
   exact ⟨_,rfl,qi0 rfl⟩
theorem qi5 {J:List LkI} {h:AV} {G:List Int} (hh:IL h G) (hJ:J.length ≤ 8) (hG:G.length ≤ 8):Pure prog 81 [lkA J,h] (rsV J G) :=by
 rcases hh with ⟨rfl,rfl⟩ | rfl
 ·exact qrr rfl hJ
 ·exact qx2 hJ hG
theorem qp7 {x y:AV} {W J:List LkI} (hx:LL x W) (hy:LL y J) (hn:¬ (areW W ∧ areJ J)):Pure prog 33 [x,y] (.tup [.nils,iv 2]) :=by
 have lx :=hx.no
 have ly :=hy.no
 have pa :=qip hx
 have pb :=qiq hy
 by_cases a:areW W
 ·have b:¬ areJ J :=fun z => hn ⟨a,z⟩
  have ea:(!decide (areW W)) = false :=nt_t (decide_eq_true a)
  have eb:(!decide (areJ J)) = true :=nt_f (decide_eq_false b)
  rcases hx with ⟨rfl,_⟩ | rfl <;> rcases hy with ⟨rfl,_⟩ | rfl
  all_goals
   refine qan hE rfl (by repeat' first|exact trivial|assumption|exact qaf _|exact fun _ h => nomatch h|apply And.intro) (by repeat' first|exact trivial|assumption|exact qaf _|exact fun _ h => nomatch h|apply And.intro) fun S q pc hS hq hC hE => ?_
   conv => whnf
   repeat ((first|refine qak ‹_› ?_|refine qaj ‹_› ?_|refine pkT ‹_› ?_|refine qaa ‹_› ?_|refine qap ‹_› ?_|refine qaq ‹_› ?_|refine pkF ‹_› ?_|refine qab ‹_› ?_|refine qak (gff ‹_›) ?_|refine qaj (gff ‹_›) ?_|refine pkT (gff ‹_›) ?_|refine qaa (gff ‹_›) ?_|refine qac hC (pa) ?_|refine qac hC (pb) ?_|refine qad hS (by kernel_rfl) ?_);conv => whnf)
   exact ⟨_,rfl,Wk.refl _⟩
 ·have ea:(!decide (areW W)) = true :=nt_f (decide_eq_false a)
  rcases hx with ⟨rfl,_⟩ | rfl <;> rcases hy with ⟨rfl,_⟩ | rfl
  all_goals
   refine qan hE rfl (by repeat' first|exact trivial|assumption|exact qaf _|exact fun _ h => nomatch h|apply And.intro) (by repeat' first|exact trivial|assumption|exact qaf _|exact fun _ h => nomatch h|apply And.intro) fun S q pc hS hq hC hE => ?_
   conv => whnf
   repeat ((first|refine qak ea ?_|refine qaj ea ?_|refine pkT ea ?_|refine qaa ea ?_|refine qap (gft ea) ?_|refine qaq (gft ea) ?_|refine pkF (gft ea) ?_|refine qab (gft ea) ?_|refine qac hC (pa) ?_|refine qac hC (pb) ?_|refine qad hS (by kernel_rfl) ?_);conv => whnf)
   exact ⟨_,rfl,Wk.refl _⟩
def tkB (W J:List LkI) (G:List Int):Bool :=rbB (rbF W (rsT J G J.length) none (alP W.length (rsT J G J.length).length))
def fsR (W J:List LkI):List (List Int) → Option (List Int)
 | [] => none
 |G :: r => if tkB W J G = true then some G else fsR W J r
def gsR (W J:List LkI):Nat → Nat → Option (List Int)
 | 0,_ => none
 |f + 1,n => match fsR W J (lsts n 0 J.length) with
  |some G => some G
  |none => gsR W J f (n + 1)
def rRf (W J:List LkI):List Int :=match gsR W J J.length 0 with
 |some G => G
 |none => gs (lsts J.length 0 J.length) 0
theorem qno (G:List Int) (x:Int):∀ k,k ≤ G.length → (isG G x k = true ↔ x ∈ G.take k)
 | 0,_ => ⟨fun h => (nomatch h),fun h => by simp at h⟩
 |k + 1,h => by
  rw [isG,Bool.or_eq_true,qno G x k (by omega),List.take_succ_eq_append_getElem (by omega),List.mem_append,List.mem_singleton,beq_iff_eq]
  have e:gi G k = G[k] :=by simp [gi,List.getD,show k < G.length by omega]
  rw [e]
  exact ⟨fun z => z.imp id Eq.symm,fun z => z.imp id Eq.symm⟩
theorem qnp (s:Nat):∀ (n i:Nat),Int.ofNat i ∈ gnS s n ↔ i < n ∧ (s >>> i) % 2 = 1
 | 0,i => ⟨fun h => (nomatch h),fun h => absurd h.1 (Nat.not_lt_zero _)⟩
 |n + 1,i => by
  rw [gnS,List.mem_append,qnp s n i]
  constructor
  ·rintro (h | h)
   ·exact ⟨by omega,h.2⟩
   ·split at h
    ·next c =>
     have:Int.ofNat i = Int.ofNat n :=List.mem_singleton.1 h
     obtain rfl:i = n :=Int.ofNat.inj this
     exact ⟨by omega,c⟩
    ·exact nomatch h
  ·rintro ⟨h1,h2⟩
   by_cases e:i = n
   ·subst e;rw [if_pos h2];exact .inr (List.mem_singleton.2 rfl)
   ·exact .inl ⟨by omega,h2⟩
theorem quv (J:List LkI) (s:Nat):∀ i,i ≤ J.length → rsT J (gnS s J.length) i = lfS J s i
 | 0,_ => rfl
 |i + 1,h => by
  rw [rsT,lfS,quv J s i (by omega)]
  congr 1
  by_cases c:(s >>> i) % 2 = 1
  ·rw [if_pos c,if_pos ((qno _ _ _ (Nat.le_refl _)).2 (by rw [List.take_length];exact (qnp s _ i).2 ⟨by omega,c⟩))]
  ·rw [if_neg c,if_neg fun z => c ((qnp s _ i).1 (by have :=(qno _ _ _ (Nat.le_refl _)).1 z;rwa [List.take_length] at this)).2]
theorem qpn (s n:Nat):gnS s n = subs s n :=by
 induction n with
 |zero => rfl
 |succ n ih =>
  rw [gnS,subs,ih,Nat.shiftRight_eq_div_pow]
  split
  ·rfl
  ·exact List.append_nil _
theorem qz0 {m n:Nat} {G:List Int} (h:G ∈ lsts m 0 n):∃ s,s < 2 ^ n ∧ gnS s n = G :=by
 have h2 :=((qdq _ _ _ _).1 h).2
 rw [Nat.zero_add] at h2
 obtain ⟨s,h3,h4⟩ :=qe5 n G h2
 exact ⟨s,h3,by rw [qpn];exact h4⟩
theorem qwk {J:List LkI} {m:Nat} {G:List Int} (hJ:areJ J) (hm:m < J.length) (h:G ∈ lsts m 0 J.length):areJ (rsT J G J.length) ∧ rsT J G J.length ≠ [] :=by
 have hl :=((qdq _ _ _ _).1 h).1
 obtain ⟨s,_,rfl⟩ :=qz0 h
 rw [quv J s _ (Nat.le_refl _)]
 have :=qif J s J.length
 have h0:lfS J s J.length ≠ [] :=fun z => by rw [z] at this;simp only [List.length_nil] at this;omega
 exact ⟨qia hJ rfl h0,h0⟩
theorem qve:∀ {k n:Nat},n ≤ k → ∀ a,lsts n a k ≠ []
 | 0,0,_,_ => by rw [qh5];simp
 |k + 1,0,_,_ => by rw [qh5];simp
 |k + 1,n + 1,h,a => by
  rw [qf2]
  intro z
  have :=(List.append_eq_nil_iff.1 z).1
  exact qve (k :=k) (n :=n) (by omega) (a + 1) (List.map_eq_nil_iff.1 this)
theorem q0t (l:List Int):IL (sv l) l :=by
 cases l with
 |nil => exact .inl ⟨rfl,rfl⟩
 |cons x r => exact .inr rfl
theorem qlm {W J:List LkI} (hW:areW W) (hJ:areJ J):Pure prog 34 [lkA W,lkA J] (sv (rRf W J)) :=by
 have lW :=qa0 W
 have lJ :=qa0 J
 have hJ6 :=hJ.1.2
 obtain ⟨w,hw⟩ :=SVv.of (rRf W J)
 have lw:Live noL w :=hw.eq ▸ qrc _
 have hwe :=hw.eq
 rw [← hwe]
 refine qan hE rfl (by repeat' first|exact trivial|assumption|exact qaf _|exact fun _ h => nomatch h|apply And.intro) (by repeat' first|exact trivial|assumption|exact qaf _|exact fun _ h => nomatch h|apply And.intro) fun S q pc hS hq hC hE => ?_
 conv => whnf
 refine qaw hE hS (A :=Nat) [0,1,4] (fun n => [(5,nv n)]) (fun _ => []) (fun _ => []) (fun n => n ≤ J.length ∧ gsR W J J.length 0 = gsR W J (J.length - n) n) (fun n => J.length - n) 0 (kle rfl) rfl (zhg 0) ⟨Nat.zero_le _,rfl⟩ ?_
 rintro n ⟨hn,hgs⟩ Q hQ
 obtain rfl:Q = 0 :=hQ
 conv => whnf
 by_cases hn2:n < J.length
 ·have hn1:IntKind.i64.wrap (Int.ofNat n + 1) = Int.ofNat (n + 1) :=qa1 (m :=n + 1) (by omega)
  have pL :=qh9 n (by omega) 0 J.length (by omega)
  rw [Nat.zero_add] at pL
  obtain ⟨L,hL⟩ : ∃ L,L = lsts n 0 J.length :=⟨_,rfl⟩
  have hL0:L ≠ [] :=hL ▸ qve (by omega) 0
  have hLl:L.length ≤ 2 ^ J.length :=hL ▸ qkr J.length n 0
  have h26:2 ^ J.length ≤ 2 ^ 6 :=Nat.pow_le_pow_right (by decide) hJ6
  rw [← hL,lV,if_neg hL0] at pL
  have lL :=qa4 L
  have hgs2:gsR W J J.length 0 = match fsR W J L with | some G => some G | none => gsR W J (J.length - (n + 1)) (n + 1) :=by
   rw [hgs,show J.length - n = (J.length - (n + 1)) + 1 by omega,gsR,← hL]
  refine qaa (qau hn2) ?_
  conv => whnf
  refine qac hC (pL) ?_
  conv => whnf
  refine qaw hE hS (A :=Nat) [0,1,4,5,6] (fun i => [(7,nv i)]) (fun _ => []) (fun _ => []) (fun i => i ≤ L.length ∧ fsR W J L = fsR W J (L.drop i)) (fun i => L.length - i) 0 (kle rfl) rfl (zhg 0) ⟨Nat.zero_le _,rfl⟩ ?_
  rintro i ⟨hi,hfs⟩ Q hQ
  obtain rfl:Q = 0 :=hQ
  conv => whnf
  by_cases hi2:i < L.length
  ·have hi1:IntKind.i64.wrap (Int.ofNat i + 1) = Int.ofNat (i + 1) :=qa1 (m :=i + 1) (by omega)
   have hg:gs L i ∈ lsts n 0 J.length :=by rw [← hL];exact qie L hi2
   have hrs :=qwk hJ hn2 hg
   have hgl :=((qdq _ _ _ _).1 hg).1
   have pR :=qi5 (q0t (gs L i)) (J :=J) (by omega) (by omega)
   rw [rsV,if_neg hrs.2] at pR
   have pP :=qqb hW hrs.1
   have hd:fsR W J L = if tkB W J (gs L i) = true then some (gs L i) else fsR W J (L.drop (i + 1)) :=by
    rw [hfs,qnx L hi2,fsR]
   have hn :=qcw (l :=L) hi2
   cases ht:tkB W J (gs L i) with
   |true =>
    have er:rRf W J = gs L i :=by
     unfold rRf
     rw [hgs2,hd,if_pos ht]
    rw [← er,← hwe] at hn pR
    obtain ⟨b,hb⟩ : ∃ b,rbF W (rsT J (gs L i) J.length) none (alP W.length (rsT J (gs L i) J.length).length) = some b :=by
     cases h:rbF W (rsT J (gs L i) J.length) none (alP W.length (rsT J (gs L i) J.length).length) with
     |none => unfold tkB at ht;rw [h] at ht;cases ht
     |some b => exact ⟨b,rfl⟩
    rw [hb] at pP
    rw [← er] at pP
    rcases hw with ⟨rfl,_⟩ | ⟨rfl,_⟩
    all_goals
     try have z249:=qau hi2
     try have z250:=qal hi2
     repeat ((first|refine qae (nthP hn) ?_|refine qak ‹_› ?_|refine qaj ‹_› ?_|refine pkT ‹_› ?_|refine qaa ‹_› ?_|refine qap ‹_› ?_|refine qaq ‹_› ?_|refine pkF ‹_› ?_|refine qab ‹_› ?_|refine qac hC (pR) ?_|refine qac hC (pP) ?_|refine qad hS (by kernel_rfl) ?_);conv => whnf)
     exact ⟨_,rfl,Wk.refl _⟩
   |false =>
    obtain ⟨z,hz⟩ :=SVv.of (gs L i)
    rw [← hz.eq] at hn pR
    have hb:rbF W (rsT J (gs L i) J.length) none (alP W.length (rsT J (gs L i) J.length).length) = none :=by
     cases h:rbF W (rsT J (gs L i) J.length) none (alP W.length (rsT J (gs L i) J.length).length) with
     |none => rfl
     |some b => unfold tkB at ht;rw [h] at ht;cases ht
    rw [hb] at pP
    rw [ht,if_neg (by decide)] at hd
    rcases hz with ⟨rfl,_⟩ | ⟨rfl,_⟩
    all_goals
     try have z251:=qau hi2
     try have z252:=qal hi2
     repeat ((first|refine qae (nthP hn) ?_|refine qak ‹_› ?_|refine qaj ‹_› ?_|refine pkT ‹_› ?_|refine qaa ‹_› ?_|refine qap ‹_› ?_|refine qaq ‹_› ?_|refine pkF ‹_› ?_|refine qab ‹_› ?_|refine qac hC (pR) ?_|refine qac hC (pP) ?_|refine qad hS (by kernel_rfl) ?_);conv => whnf)
     exact ⟨i + 1,⟨hi2,hd⟩,by omega,Nat.le_refl _,(zhg 0)⟩
  ·refine qab (qa6 hi2) ?_
   conv => whnf
   refine .inl ?_
   conv => whnf
   rw [List.drop_eq_nil_of_le (by omega),fsR] at hfs
   rw [hfs] at hgs2
   exact ⟨n + 1,⟨hn2,hgs2⟩,by omega,Nat.le_refl _,(zhg 0)⟩
 ·refine qab (qa6 hn2) ?_
  conv => whnf
  refine .inl ?_
  conv => whnf
  have en:n = J.length :=by omega
  subst en
  have pL :=qh9 J.length (by omega) 0 J.length (by omega)
  rw [Nat.zero_add] at pL
  obtain ⟨L,hL⟩ : ∃ L,L = lsts J.length 0 J.length :=⟨_,rfl⟩
  have hL0:L ≠ [] :=hL ▸ qve (Nat.le_refl _) 0
  rw [← hL,lV,if_neg hL0] at pL
  have lL :=qa4 L
  have hp:0 < L.length :=Nat.pos_of_ne_zero fun z => hL0 (List.length_eq_zero_iff.1 z)
  have er:rRf W J = gs L 0 :=by
   unfold rRf
   rw [hgs,Nat.sub_self,gsR,← hL]
  have hn :=qcw (l :=L) hp
  rw [← er,← hwe] at hn
  have i0:inR 0 L.length = true :=qal (i :=0) hp
  rcases hw with ⟨rfl,_⟩ | ⟨rfl,_⟩
  all_goals
   repeat ((first|refine qae (nthP hn) ?_|refine qak i0 ?_|refine qaj i0 ?_|refine pkT i0 ?_|refine qaa i0 ?_|refine qac hC (pL) ?_|refine qad hS (by kernel_rfl) ?_);conv => whnf)
   exact ⟨_,rfl,Wk.refl _⟩
end
end Go.Abs.Seat
namespace Go.Abs.Seat
noncomputable section
open Go Go.Abs Go.Proofs.Tryz
set_option maxRecDepth 100000
set_option maxHeartbeats 4000000
instance (W J:List LkI) (x:List Int):Decidable (okP W J x) :=Classical.propDecidable _
def plm (W J:List LkI) (x:List Int):Pln :=(x,wgJ W J x x.length)
def exN (w:Nat):Nat → List Int → List (List Int)
 | 0,now => [now]
 |f + 1,now => (List.range w).flatMap fun n => exN w f (now ++ [Int.ofNat n])
theorem qk6 (w:Nat):∀ L,exF w L = L.flatMap fun x => exR x w
 | [] => rfl
 |x :: r => by rw [exF,qk6 w r];rfl
theorem qvv (x:List Int) (w:Nat):exR x w = (List.range w).flatMap fun n => [x ++ [Int.ofNat n]] :=by
 unfold exR
 generalize List.range w = l
 induction l with
 |nil => rfl
 |cons a r ih => simp only [List.map_cons,List.flatMap_cons,ih];rfl
theorem qps (w:Nat):∀ (f:Nat) (now:List Int),exN w (f + 1) now = exF w (exN w f now)
 | 0,now => by
  rw [exN]
  show (List.range w).flatMap (fun n => [now ++ [Int.ofNat n]]) = exF w [now]
  rw [← qvv,exF,exF,List.append_nil]
 |f + 1,now => by
  have e:exN w (f + 2) now = (List.range w).flatMap fun n => exN w (f + 1) (now ++ [Int.ofNat n]) :=rfl
  rw [e,qk6]
  have e2:exN w (f + 1) now = (List.range w).flatMap fun n => exN w f (now ++ [Int.ofNat n]) :=rfl
  rw [e2,List.flatMap_assoc]
  congr 1
  funext n
  rw [qps w f,qk6]
theorem qt9 (w:Nat):∀ i,alP w i = exN w i []
 | 0 => rfl
 |i + 1 => by rw [alP,qt9 w i,qps]
theorem qpa (W J:List LkI) (i:Nat) (g:Nat → List Pln):∀ k,ndP W J i g k = (List.range k).flatMap fun n => if lvP W J i n then g n else []
 | 0 => rfl
 |k + 1 => by
  rw [ndP,qpa W J i g k,List.range_succ,List.flatMap_append]
  simp
theorem qts {w:Nat}:∀ {f:Nat} {now z:List Int},z ∈ exN w f now → ∃ t,z = now ++ t
 | 0,now,z,h => ⟨[],by rw [List.append_nil];simpa [exN] using h⟩
 |f + 1,now,z,h => by
  rw [exN,List.mem_flatMap] at h
  obtain ⟨n,_,h2⟩ :=h
  obtain ⟨t,rfl⟩ :=qts h2
  exact ⟨Int.ofNat n :: t,by simp⟩
theorem qz9 (a b:List Int) (x:Int):gi (a ++ [x] ++ b) a.length = x :=by
 show List.getD _ _ _ = _
 simp [List.getD]
theorem qrf (W J:List LkI):∀ (f:Nat) (now:List Int),now.length + f = J.length → pfP W J now → srQP W J f now = ((exN W.length f now).filter fun x => decide (okP W J x)).map (plm W J)
 | 0,now,hl,hp => by
  rw [srQP,exN]
  have hpl:isPl W J now :=⟨hl,hp⟩
  by_cases c:inTm W J now
  ·have d:okP W J now :=⟨hpl,c⟩
   rw [if_pos c,List.filter_cons_of_pos (p :=fun x => decide (okP W J x)) (decide_eq_true d)];rfl
  ·rw [if_neg c,List.filter_cons_of_neg (p :=fun x => decide (okP W J x)) (fun z => c (of_decide_eq_true z).2)];rfl
 |f + 1,now,hl,hp => by
  rw [srQP,qpa,exN,List.filter_flatMap,List.map_flatMap]
  have key:∀ n,n ∈ List.range W.length → (if lvP W J now.length n then srQP W J f (now ++ [Int.ofNat n]) else []) = ((exN W.length f (now ++ [Int.ofNat n])).filter fun x => decide (okP W J x)).map (plm W J) :=fun n hn => by
   have hn :=List.mem_range.1 hn
   by_cases c:lvP W J now.length n
   ·rw [if_pos c]
    exact qrf W J f (now ++ [Int.ofNat n]) (by rw [List.length_append,List.length_singleton];omega) (qka hp hn c)
   ·rw [if_neg c]
    have e:(exN W.length f (now ++ [Int.ofNat n])).filter (fun x => decide (okP W J x)) = [] :=List.filter_eq_nil_iff.2 fun z hz => by
     intro k
     have k :=of_decide_eq_true k
     obtain ⟨t,rfl⟩ :=qts hz
     have h1 :=k.1.2 now.length (by rw [List.length_append,List.length_append,List.length_singleton];omega)
     unfold ql3 at h1
     rw [qz9] at h1
     exact c h1.2
    rw [e];rfl
  have fl:∀ l:List Nat,(∀ n,n ∈ l → n ∈ List.range W.length) → (l.flatMap fun n => if lvP W J now.length n then srQP W J f (now ++ [Int.ofNat n]) else []) = l.flatMap fun n => ((exN W.length f (now ++ [Int.ofNat n])).filter fun x => decide (okP W J x)).map (plm W J) :=by
   intro l
   induction l with
   |nil => intro _;rfl
   |cons a r ih =>
    intro h
    rw [List.flatMap_cons,List.flatMap_cons,key a (h a (List.mem_cons_self ..)),ih fun n hn => h n (List.mem_cons_of_mem _ hn)]
  exact fl _ fun _ h => h
theorem qzt (W J:List LkI):plL W J = ((alP W.length J.length).filter fun x => decide (okP W J x)).map (plm W J) :=by
 unfold plL
 rw [qrf W J J.length [] (by simp) (fun i h => absurd h (Nat.not_lt_zero _)),qt9]
theorem qhf (W J:List LkI):∀ (L:List (List Int)) (b:List Int),rbF W J (some b) L = some (bsP (plm W J b) ((L.filter fun x => decide (okP W J x)).map (plm W J))).1
 | [],b => rfl
 |x :: r,b => by
  rw [rbF]
  by_cases c:okP W J x
  ·rw [List.filter_cons_of_pos (p :=fun x => decide (okP W J x)) (decide_eq_true c),List.map_cons,bsP]
   by_cases d:wgJ W J x x.length < wgJ W J b b.length
   ·rw [if_pos ⟨c,(fun _ h => by cases h;exact d)⟩,qhf W J r x]
    rw [if_pos (show (plm W J x).2 < (plm W J b).2 from d)]
   ·rw [if_neg (fun z => d (z.2 b rfl)),qhf W J r b]
    rw [if_neg (show ¬ (plm W J x).2 < (plm W J b).2 from d)]
  ·rw [if_neg (fun z => c z.1),List.filter_cons_of_neg (p :=fun x => decide (okP W J x)) (fun z => c (of_decide_eq_true z)),qhf W J r b]
theorem qow (W J:List LkI):∀ (L:List (List Int)),rbF W J none L = match (L.filter fun x => decide (okP W J x)).map (plm W J) with | [] => none | x :: r => some (bsP x r).1
 | [] => rfl
 |x :: r => by
  rw [rbF]
  by_cases c:okP W J x
  ·rw [List.filter_cons_of_pos (p :=fun x => decide (okP W J x)) (decide_eq_true c),List.map_cons,if_pos ⟨c,(fun _ h => by cases h)⟩,qhf W J r x]
  ·rw [if_neg (fun z => c z.1),List.filter_cons_of_neg (p :=fun x => decide (okP W J x)) (fun z => c (of_decide_eq_true z)),qow W J r]
theorem qx3 (W J:List LkI):rbF W J none (alP W.length J.length) = (qe2 W J).map fun p => p.1 :=by
 rw [qow]
 unfold qe2
 rw [qzt]
 cases ((alP W.length J.length).filter fun x => decide (okP W J x)).map (plm W J) <;> rfl
end
end Go.Abs.Seat
namespace Go.Abs.Seat
open Go Go.Abs
def okG (W J:List LkI) (G:List Int):Prop :=rsT J G J.length = [] ∨ qe2 W (rsT J G J.length) ≠ none
theorem qt3 (W J:List LkI):qe2 W J ≠ none ↔ plL W J ≠ [] :=by
 unfold qe2
 cases plL W J with
 |nil => exact ⟨fun h => absurd rfl h,fun h => absurd rfl h⟩
 |cons x r => exact ⟨fun _ h => (nomatch h),fun _ h => (nomatch h)⟩
theorem qwo (W J:List LkI) (s:Nat):okRf W J s ↔ okG W J (gnS s J.length) :=by
 unfold okRf okG
 rw [quv J s _ (Nat.le_refl _),qt3]
theorem qwg (W J:List LkI) (G:List Int):tkB W J G = true ↔ qe2 W (rsT J G J.length) ≠ none :=by
 unfold tkB
 rw [qx3]
 cases qe2 W (rsT J G J.length) with
 |none => exact ⟨fun h => (nomatch h),fun h => absurd rfl h⟩
 |some p => exact ⟨fun _ h => (nomatch h),fun _ => rfl⟩
theorem qft {W J:List LkI} {G:List Int}:G ∈ alG W J (2 ^ J.length) ↔ Asc 0 J.length G ∧ okG W J G :=by
 unfold alG
 rw [List.mem_map]
 constructor
 ·rintro ⟨s,h,rfl⟩
  have h2 :=of_decide_eq_true (List.mem_filter.1 h).2
  exact ⟨by rw [qpn];exact qxg (qxu s _),(qwo W J s).1 h2⟩
 ·rintro ⟨h1,h2⟩
  obtain ⟨s,h3,h4⟩ :=qe5 _ _ h1
  rw [← qpn] at h4
  exact ⟨s,List.mem_filter.2 ⟨List.mem_range.2 h3,decide_eq_true ((qwo W J s).2 (by rw [h4];exact h2))⟩,h4⟩
theorem qst {n:Nat} {G:List Int}:G ∈ lsts G.length 0 n ↔ Asc 0 n G :=by
 rw [qdq,Nat.zero_add]
 exact ⟨fun h => h.2,fun h => ⟨rfl,h⟩⟩
theorem qlb {n:Nat} {G:List Int} (h:Asc 0 n G):G.length ≤ n :=by
 obtain ⟨s,_,h2⟩ :=qe5 n G h
 rw [← h2]
 exact qoh s n
theorem qrn {J:List LkI} {G:List Int} (h:Asc 0 J.length G):(rsT J G J.length).length + G.length = J.length :=by
 obtain ⟨s,_,h2⟩ :=qe5 _ G h
 rw [← qpn] at h2
 rw [← h2,quv J s _ (Nat.le_refl _)]
 have :=qif J s J.length
 omega
theorem qpq {W J:List LkI}:∀ {L:List (List Int)} {G:List Int},L.Pairwise (fun x y => lexI x y < 0) → fsR W J L = some G → G ∈ L ∧ tkB W J G = true ∧ ∀ y,y ∈ L → lexI y G < 0 → tkB W J y = false
 | [],_,_,h => (nomatch h)
 |x :: r,G,hp,h => by
  rw [fsR] at h
  rw [List.pairwise_cons] at hp
  by_cases t:tkB W J x = true
  ·rw [if_pos t] at h
   injection h with h
   subst h
   refine ⟨List.mem_cons_self,t,fun y hy hl => ?_⟩
   rcases List.mem_cons.1 hy with rfl | hy
   ·have :=qed y y;omega
   ·have h1 :=hp.1 y hy
    have :=qed x y
    omega
  ·rw [if_neg t] at h
   obtain ⟨h1,h2,h3⟩ :=qpq hp.2 h
   refine ⟨List.mem_cons_of_mem _ h1,h2,fun y hy hl => ?_⟩
   rcases List.mem_cons.1 hy with rfl | hy
   ·exact Bool.eq_false_iff.2 t
   ·exact h3 y hy hl
theorem qkz {W J:List LkI}:∀ {L:List (List Int)},fsR W J L = none → ∀ y,y ∈ L → tkB W J y = false
 | [],_,_,h => (nomatch h)
 |x :: r,h,y,hy => by
  rw [fsR] at h
  by_cases t:tkB W J x = true
  ·rw [if_pos t] at h;cases h
  ·rw [if_neg t] at h
   rcases List.mem_cons.1 hy with rfl | hy
   ·exact Bool.eq_false_iff.2 t
   ·exact qkz h y hy
theorem qpl {W J:List LkI}:∀ {f n:Nat} {G:List Int},gsR W J f n = some G → ∃ m,n ≤ m ∧ m < n + f ∧ fsR W J (lsts m 0 J.length) = some G ∧ ∀ k,n ≤ k → k < m → fsR W J (lsts k 0 J.length) = none
 | 0,_,_,h => (nomatch h)
 |f + 1,n,G,h => by
  rw [gsR] at h
  cases e:fsR W J (lsts n 0 J.length) with
  |some X =>
   rw [e] at h
   injection h with h
   subst h
   exact ⟨n,Nat.le_refl _,by omega,e,fun k h1 h2 => by omega⟩
  |none =>
   rw [e] at h
   obtain ⟨m,h1,h2,h3,h4⟩ :=qpl h
   refine ⟨m,by omega,by omega,h3,fun k k1 k2 => ?_⟩
   by_cases c:k = n
   ·subst c;exact e
   ·exact h4 k (by omega) k2
theorem qpm {W J:List LkI}:∀ {f n:Nat},gsR W J f n = none → ∀ k,n ≤ k → k < n + f → fsR W J (lsts k 0 J.length) = none
 | 0,_,_,_,_,_ => by omega
 |f + 1,n,h,k,k1,k2 => by
  rw [gsR] at h
  cases e:fsR W J (lsts n 0 J.length) with
  |some X => rw [e] at h;cases h
  |none =>
   rw [e] at h
   by_cases c:k = n
   ·subst c;exact e
   ·exact qpm h k (by omega) (by omega)
theorem qxn {W J:List LkI} {G:List Int} (h:Asc 0 J.length G) (hl:G.length < J.length) (ok:okG W J G):tkB W J G = true :=by
 have :=qrn h
 rcases ok with ok | ok
 ·rw [ok] at this;simp only [List.length_nil] at this;omega
 ·exact (qwg W J G).2 ok
theorem qox {W J:List LkI}:rRf W J ∈ alG W J (2 ^ J.length) ∧ ∀ y,y ∈ alG W J (2 ^ J.length) → ¬ btP y (rRf W J) :=by
 cases e:gsR W J J.length 0 with
 |some G =>
  rw [show rRf W J = G by unfold rRf;rw [e]]
  obtain ⟨m,_,h2,h3,h4⟩ :=qpl e
  obtain ⟨k1,k2,k3⟩ :=qpq (qss _ _ _) h3
  obtain ⟨l1,l2⟩ :=(qdq _ _ _ _).1 k1
  rw [Nat.zero_add] at l2
  refine ⟨qft.2 ⟨l2,.inr ((qwg W J G).1 k2)⟩,fun y hy hb => ?_⟩
  obtain ⟨y1,y2⟩ :=qft.1 hy
  have yl :=qst.2 y1
  rcases hb with hb | ⟨hb,hc⟩
  ·have t :=qxn y1 (by omega) y2
   rw [qkz (h4 y.length (Nat.zero_le _) (by omega)) y yl] at t
   cases t
  ·have t :=qxn y1 (by omega) y2
   rw [hb,l1] at yl
   rw [k3 y yl hc] at t
   cases t
 |none =>
  rw [show rRf W J = gs (lsts J.length 0 J.length) 0 by unfold rRf;rw [e]]
  have hN :=qpm e
  have h0 :=qve (Nat.le_refl J.length) 0
  have hp:0 < (lsts J.length 0 J.length).length :=Nat.pos_of_ne_zero fun z => h0 (List.length_eq_zero_iff.1 z)
  have hm :=qie _ hp
  obtain ⟨l1,l2⟩ :=(qdq _ _ _ _).1 hm
  rw [Nat.zero_add] at l2
  have hr :=qrn l2
  refine ⟨qft.2 ⟨l2,.inl (List.length_eq_zero_iff.1 (by omega))⟩,fun y hy hb => ?_⟩
  obtain ⟨y1,y2⟩ :=qft.1 hy
  have yl :=qst.2 y1
  rcases hb with hb | ⟨hb,hc⟩
  ·have t :=qxn y1 (by omega) y2
   rw [qkz (hN y.length (Nat.zero_le _) (by omega)) y yl] at t
   cases t
  ·rw [hb,l1] at yl
   obtain ⟨j,hj,ej⟩ :=List.getElem_of_mem yl
   have eg:gs (lsts J.length 0 J.length) j = y :=by simp [gs,List.getD,hj,ej]
   rw [← eg] at hc
   exact absurd (qyp hj hp hc) (Nat.not_lt_zero _)
theorem qot {W J:List LkI} (hJ:areJ J):rfI W J ∈ alG W J (2 ^ J.length) ∧ ∀ y,y ∈ alG W J (2 ^ J.length) → ¬ btP y (rfI W J) :=by
 unfold rfI
 cases h:alG W J (2 ^ J.length) with
 |nil => exact absurd h (qxi hJ)
 |cons x r =>
  have hb :=qpx r x
  exact ⟨List.mem_cons.2 hb.1,fun y hy => hb.2 y (List.mem_cons.1 hy)⟩
theorem qrp {W J:List LkI} (hJ:areJ J):rfI W J = rRf W J :=by
 obtain ⟨h1,h2⟩ :=qot (W :=W) hJ
 obtain ⟨k1,k2⟩ :=qox (W :=W) (J :=J)
 exact btP.tot (k2 _ h1) (h2 _ k1)
end Go.Abs.Seat
namespace Go.Abs.Seat
noncomputable section
open Go Go.Abs Go.Proofs.Tryz
set_option maxRecDepth 100000
set_option maxHeartbeats 40000000
attribute [local irreducible] IntKind.wrap pEq
theorem qwb {x:AV} {L:List LkI} (h:LL x L) (hl:1 ≤ L.length):x = lkA L :=by
 rcases h with ⟨_,rfl⟩ | h
 ·exact absurd hl (by simp)
 ·exact h
end
end Go.Abs.Seat
namespace Go.Abs.Seat
open Go Go.Abs Go.Proofs.Tryz
set_option maxRecDepth 100000
theorem gRates:GoalM noMu [] 48 [aP] (.tup [rows .no [1,1,1,2,1,3,3,4] 4,.lst [.bool true,.bool false,.bool true,.bool true] 4 .no,i64 0]) :=of_eq_true (by kernel_rfl)
theorem pRates:Pure prog 48 [aP] (.tup [rows .no [1,1,1,2,1,3,3,4] 4,.lst [.bool true,.bool false,.bool true,.bool true] 4 .no,i64 0]) :=gRates.pure MOK.nil (by kernel_rfl)
theorem gSpoils:GoalM muLinks [] 50 [aP,.agg [i64 0,i64 10,i64 30]] (.tup [ints .no [0,1],i64 0]) :=of_eq_true (by kernel_rfl)
theorem pSpoils:Pure prog 50 [aP,.agg [i64 0,i64 10,i64 30]] (.tup [ints .no [0,1],i64 0]) :=gSpoils.pure MOK.nil (by kernel_rfl)
theorem gSheets:GoalM noMu [] 40 [i64 100,i64 2,ints .full [10,20,15,10]] (.tup [ints .no [0,0,0,1],i64 2,i64 0]) :=of_eq_true (by kernel_rfl)
theorem pSheets:Pure prog 40 [i64 100,i64 2,ints .full [10,20,15,10]] (.tup [ints .no [0,0,0,1],i64 2,i64 0]) :=gSheets.pure MOK.nil (by kernel_rfl)
theorem gBalances:GoalM noMu [] 14 [i64 3,aE] (.tup [ints .no [-9,6,3],i64 0]) :=of_eq_true (by kernel_rfl)
theorem pBalances:Pure prog 14 [i64 3,aE] (.tup [ints .no [-9,6,3],i64 0]) :=gBalances.pure MOK.nil (by kernel_rfl)
theorem gSettle:GoalM muSettle [] 15 [i64 3,aE] (.tup [rows .no [1,0,6,2,0,3] 2,i64 0]) :=of_eq_true (by kernel_rfl)
theorem pSettle:Pure prog 15 [i64 3,aE] (.tup [rows .no [1,0,6,2,0,3] 2,i64 0]) :=gSettle.pure MOK.nil (by kernel_rfl)
theorem gBill:GoalM noMu [] 57 [aB] (.tup [i64 43,i64 23,i64 0]) :=of_eq_true (by kernel_rfl)
theorem pBill:Pure prog 57 [aB] (.tup [i64 43,i64 23,i64 0]) :=gBill.pure MOK.nil (by kernel_rfl)
theorem gRead:GoalM noMu [] 44 [aText] (.tup [.agg [rows .no [0,4,4] 1,ints .no [1]],i64 0]) :=of_eq_true (by kernel_rfl)
theorem pRead:Pure prog 44 [aText] (.tup [.agg [rows .no [0,4,4] 1,ints .no [1]],i64 0]) :=gRead.pure MOK.nil (by kernel_rfl)
end Go.Abs.Seat
namespace Go.Abs.Seat
noncomputable section
open Go Go.Abs Go.Proofs.Tryz
set_option maxRecDepth 100000
set_option maxHeartbeats 40000000
attribute [local irreducible] IntKind.wrap pEq
theorem qg3 (a b:Int):Pure prog 106 [iv a,iv b] (.bool (decide ((tth a ∧ tth b) ∧ a ≤ b))) :=by
 by_cases h1:tth a
 ·have c1:decide (tth a) = true :=decide_eq_true h1
  by_cases h2:tth b
  ·have c2:decide (tth b) = true :=decide_eq_true h2
   refine qan hE rfl (by repeat' first|exact trivial|assumption|exact qaf _|exact fun _ h => nomatch h|apply And.intro) (by repeat' first|exact trivial|assumption|exact qaf _|exact fun _ h => nomatch h|apply And.intro) fun S q pc hS hq hC hE => ?_
   conv => whnf
   repeat ((first|refine qak ‹_› ?_|refine qaj ‹_› ?_|refine pkT ‹_› ?_|refine qaa ‹_› ?_|refine qak (qar ‹_›) ?_|refine qaj (qar ‹_›) ?_|refine pkT (qar ‹_›) ?_|refine qaa (qar ‹_›) ?_|refine qac hC (qb3 a) ?_|refine qac hC (qb3 b) ?_|refine qad hS (by kernel_rfl) ?_);conv => whnf)
   exact ⟨_,rfl,wkb (by simp [h1,h2])⟩
  ·have c2:decide (tth b) = false :=decide_eq_false h2
   refine qan hE rfl (by repeat' first|exact trivial|assumption|exact qaf _|exact fun _ h => nomatch h|apply And.intro) (by repeat' first|exact trivial|assumption|exact qaf _|exact fun _ h => nomatch h|apply And.intro) fun S q pc hS hq hC hE => ?_
   conv => whnf
   repeat ((first|refine qak ‹_› ?_|refine qaj ‹_› ?_|refine pkT ‹_› ?_|refine qaa ‹_› ?_|refine qap ‹_› ?_|refine qaq ‹_› ?_|refine pkF ‹_› ?_|refine qab ‹_› ?_|refine qak (qar ‹_›) ?_|refine qaj (qar ‹_›) ?_|refine pkT (qar ‹_›) ?_|refine qaa (qar ‹_›) ?_|refine qap (qa2 ‹_›) ?_|refine qaq (qa2 ‹_›) ?_|refine pkF (qa2 ‹_›) ?_|refine qab (qa2 ‹_›) ?_|refine qac hC (qb3 a) ?_|refine qac hC (qb3 b) ?_|refine qad hS (by kernel_rfl) ?_);conv => whnf)
   exact ⟨_,rfl,wkb (by simp [h2])⟩
 ·have c1:decide (tth a) = false :=decide_eq_false h1
  refine qan hE rfl (by repeat' first|exact trivial|assumption|exact qaf _|exact fun _ h => nomatch h|apply And.intro) (by repeat' first|exact trivial|assumption|exact qaf _|exact fun _ h => nomatch h|apply And.intro) fun S q pc hS hq hC hE => ?_
  conv => whnf
  repeat ((first|refine qap c1 ?_|refine qaq c1 ?_|refine pkF c1 ?_|refine qab c1 ?_|refine qap (qa2 c1) ?_|refine qaq (qa2 c1) ?_|refine pkF (qa2 c1) ?_|refine qab (qa2 c1) ?_|refine qac hC (qb3 a) ?_|refine qad hS (by kernel_rfl) ?_);conv => whnf)
  exact ⟨_,rfl,wkb (by simp [h1])⟩
theorem qfc (a b:Int):Pure prog 107 [fv a b] (.bool (decide (isF a b))) :=by
 by_cases h1:0 ≤ a ∧ a ≤ 50000
 ·have c1:decide (0 ≤ a ∧ a ≤ 50000) = true :=decide_eq_true h1
  refine qan hE rfl (by repeat' first|exact trivial|assumption|exact qaf _|exact fun _ h => nomatch h|apply And.intro) (by repeat' first|exact trivial|assumption|exact qaf _|exact fun _ h => nomatch h|apply And.intro) fun S q pc hS hq hC hE => ?_
  conv => whnf
  repeat ((first|refine qak c1 ?_|refine qaj c1 ?_|refine pkT c1 ?_|refine qaa c1 ?_|refine qak (qar c1) ?_|refine qaj (qar c1) ?_|refine pkT (qar c1) ?_|refine qaa (qar c1) ?_|refine qac hC (qay a 0 50000) ?_|refine qac hC (qay b 1 50000) ?_|refine qad hS (by kernel_rfl) ?_);conv => whnf)
  exact ⟨_,rfl,wkb (by unfold isF;simp [h1])⟩
 ·have c1:decide (0 ≤ a ∧ a ≤ 50000) = false :=decide_eq_false h1
  refine qan hE rfl (by repeat' first|exact trivial|assumption|exact qaf _|exact fun _ h => nomatch h|apply And.intro) (by repeat' first|exact trivial|assumption|exact qaf _|exact fun _ h => nomatch h|apply And.intro) fun S q pc hS hq hC hE => ?_
  conv => whnf
  repeat ((first|refine qap c1 ?_|refine qaq c1 ?_|refine pkF c1 ?_|refine qab c1 ?_|refine qap (qa2 c1) ?_|refine qaq (qa2 c1) ?_|refine pkF (qa2 c1) ?_|refine qab (qa2 c1) ?_|refine qac hC (qay a 0 50000) ?_|refine qad hS (by kernel_rfl) ?_);conv => whnf)
  exact ⟨_,rfl,wkb (by unfold isF;simp [h1])⟩
theorem qp6 (a b n d:Nat) (h1:a * d < 4611686018427387904) (h2:n * b < 4611686018427387904):Pure prog 112 [fv (Int.ofNat a) (Int.ofNat b),fv (Int.ofNat n) (Int.ofNat d)] (qf (dQ n d (a,b))) :=by
 refine qan hE rfl (by repeat' first|exact trivial|assumption|exact qaf _|exact fun _ h => nomatch h|apply And.intro) (by repeat' first|exact trivial|assumption|exact qaf _|exact fun _ h => nomatch h|apply And.intro) fun S q pc hS hq hC hE => ?_
 conv => whnf
 refine ⟨_,rfl,wkE ?_⟩
 rw [show IntKind.i64.wrap (Int.ofNat a * Int.ofNat d) = Int.ofNat (a * d) from qa1 (m :=a * d) (by omega),show IntKind.i64.wrap (Int.ofNat n * Int.ofNat b) = Int.ofNat (n * b) from qa1 (m :=n * b) (by omega),
  qd7 (by show _ ≤ (_:Int) - _;simp only [Int.ofNat_eq_natCast];omega) (by simp only [Int.ofNat_eq_natCast];omega),qvd h1 h2]
 rfl
abbrev hpA (N:List Lk) (M:List Int) (n d:Nat) (W0 W2 W4:AObj):Tr AObj :=
 .node W0 (.node (.cells (.node (nv n) (.node (nv d) .nil .nil) .nil) 2 78) (.node (.cells (.node (nkA N) (.node (nl M) .nil .nil) (.node (pv (zp (rtL N (N.length + 1)))) .nil .nil)) 3 155) .nil .nil) (.node (.cells (.node (.func (.func 111) [] [.ptr 3 0,.ptr 1 0]) .nil .nil) 1 167) .nil .nil)) (.node W2 (.node W4 .nil .nil) .nil)
theorem qta (N:List Lk) (M:List Int) (n d:Nat) (W0 W2 W4:AObj):HEnd (hpA N M n d W0 W2 W4) 6 :=qc0 [W0,.cells (.node (nv n) (.node (nv d) .nil .nil) .nil) 2 78,W2,.cells (.node (nkA N) (.node (nl M) .nil .nil) (.node (pv (zp (rtL N (N.length + 1)))) .nil .nil)) 3 155,W4,.cells (.node (.func (.func 111) [] [.ptr 3 0,.ptr 1 0]) .nil .nil) 1 167] 0 .nil qeg
abbrev lkV (x:Lk):AV :=.agg [nv x.1,nv x.2.1,nv x.2.2]
def wyA (N:List Lk) (n d:Nat) (x:Lk):Nat × Nat :=dQ n d ((rtA N x.1).1 * x.2.1,(rtA N x.1).2 * x.2.2)
structure nwL (N:List Lk) (x:Lk):Prop where
 f:x.1 ≤ N.length
 a:x.2.1 ≤ 60
 b:x.2.2 ≤ 60
theorem qq2 {N:List Lk} (h:okN N) {n d:Nat} (hn:n ≤ 50000) (hd:d ≤ 50000) {x:Lk} (hx:nwL N x):((rtA N x.1).1 * x.2.1 ≤ 12960000 ∧ (rtA N x.1).2 * x.2.2 ≤ 12960000) ∧ (wyA N n d x).1 ≤ 648000000000 ∧ (wyA N n d x).2 ≤ 12960000 :=by
 have hb :=qhw h hx.f
 have m1:(rtA N x.1).1 * x.2.1 ≤ 216000 * 60 :=Nat.mul_le_mul hb.1.2 hx.a
 have m2:(rtA N x.1).2 * x.2.2 ≤ 216000 * 60 :=Nat.mul_le_mul hb.2.2 hx.b
 have m3:(rtA N x.1).1 * x.2.1 * d ≤ 12960000 * 50000 :=Nat.mul_le_mul (by omega) hd
 have m4:n * ((rtA N x.1).2 * x.2.2) ≤ 50000 * 12960000 :=Nat.mul_le_mul hn (by omega)
 refine ⟨⟨by omega,by omega⟩,?_,by show (rtA N x.1).2 * x.2.2 ≤ _;omega⟩
 show gp ((rtA N x.1).1 * x.2.1 * d) (n * ((rtA N x.1).2 * x.2.2)) ≤ _
 unfold gp
 omega
theorem qxf {N:List Lk} (h:okN N) {M:List Int} {n d:Nat} (hn:n ≤ 50000) (hd:d ≤ 50000) {W0 W2 W4:AObj} (b0:BdO 6 W0) (b2:BdO 6 W2) (b4:BdO 6 W4) {x:Lk} (hx:nwL N x) :
  HFun prog 111 [lkV x,.ptr 3 0,.ptr 1 0] (hv (hpA N M n d W0 W2 W4)) 6 (qf (wyA N n d x)) (hv (hpA N M n d W0 W2 W4)) :=by
 have lN :=qa0 (cL N)
 have lM :=qat M
 have lR :=qaf (zp (rtL N (N.length + 1)))
 have hBd:ObBd 6 (hpA N M n d W0 W2 W4) 6 :=by
  repeat' (first|exact trivial|exact b0|exact b2|exact b4|exact Nat.zero_le _|exact qag lN|exact qag lM|exact qag lR|exact kle rfl|apply And.intro|exact Nat.max_le.2 ⟨Nat.zero_le _,qag lN⟩)
 refine qf7 hE rfl (qta N M n d W0 W2 W4) (kle rfl) (Nat.zero_le _) hBd hBd fun S q pc hS hq hC hE => ?_
 have hf :=hx.f
 have hb :=qq2 h hn hd hx
 have tk:qb2 2 (qck (x.1 * 2) (flat (zp (rtL N (N.length + 1))))) = some [nv (rtA N x.1).1,nv (rtA N x.1).2] :=by
  rw [qhp _ (by rw [qbr];omega),qfl N (by omega)]
 have m3:(rtA N x.1).1 * x.2.1 * d ≤ 12960000 * 50000 :=Nat.mul_le_mul hb.1.1 hd
 have m4:n * ((rtA N x.1).2 * x.2.2) ≤ 50000 * 12960000 :=Nat.mul_le_mul hn hb.1.2
 conv => whnf
 refine qaa ((show inR (Int.ofNat x.1) (zp (rtL N (N.length + 1))).length = true by rw [qdd,qbr];exact qal (by omega))) ?_
 conv => whnf
 refine qae (takP tk) ?_
 conv => whnf
 rw [mulN (a :=(rtA N x.1).1) (b :=x.2.1) (by omega),mulN (a :=(rtA N x.1).2) (b :=x.2.2) (by omega)]
 refine qac hC (qp6 ((rtA N x.1).1 * x.2.1) ((rtA N x.1).2 * x.2.2) n d (by omega) (by omega)) ?_
 conv => whnf
 exact ⟨_,rfl,WkV.refl _,rfl,rfl,rfl,rfl,rfl,rfl,trivial⟩
theorem ob6 {h h':Tr AObj} (e0:hv h 0 = hv h' 0) (e1:hv h 1 = hv h' 1) (e2:hv h 2 = hv h' 2) (e3:hv h 3 = hv h' 3) (e4:hv h 4 = hv h' 4) (e5:hv h 5 = hv h' 5):∀ i,i < 6 → hv h i = hv h' i
 | 0,_ => e0
 | 1,_ => e1
 | 2,_ => e2
 | 3,_ => e3
 | 4,_ => e4
 | 5,_ => e5
 | _ + 6,h => absurd h (by omega)
def btL (N:List Lk) (n d:Nat) (x y:Lk):Prop :=(wyA N n d x).1 * (wyA N n d y).2 < (wyA N n d y).1 * (wyA N n d x).2
instance (N:List Lk) (n d:Nat) (x y:Lk):Decidable (btL N n d x y) :=Nat.decLt _ _
theorem qv5 {N:List Lk} (h:okN N) {M:List Int} {n d:Nat} (hn:n ≤ 50000) (hd:d ≤ 50000) {W0 W2 W4:AObj} (b0:BdO 6 W0) (b2:BdO 6 W2) (b4:BdO 6 W4) {x y:Lk} (hx:nwL N x) (hy:nwL N y) :
  HFun prog 114 [lkV x,lkV y,.ptr 5 0] (hv (hpA N M n d W0 W2 W4)) 6 (.bool (decide (btL N n d x y))) (hv (hpA N M n d W0 W2 W4)) :=by
 have lN :=qa0 (cL N)
 have lM :=qat M
 have lR :=qaf (zp (rtL N (N.length + 1)))
 have hBd:ObBd 6 (hpA N M n d W0 W2 W4) 6 :=by
  repeat' (first|exact trivial|exact b0|exact b2|exact b4|exact Nat.zero_le _|exact qag lN|exact qag lM|exact qag lR|exact kle rfl|apply And.intro|exact Nat.max_le.2 ⟨Nat.zero_le _,qag lN⟩)
 have ax :=qxf h (M :=M) hn hd b0 b2 b4 hx
 have ay :=qxf h (M :=M) hn hd b0 b2 b4 hy
 have gx :=(qq2 h hn hd hx).2
 have gy :=(qq2 h hn hd hy).2
 have m1:(wyA N n d x).1 * (wyA N n d y).2 ≤ 648000000000 * 12960000 :=Nat.mul_le_mul gx.1 gy.2
 have m2:(wyA N n d y).1 * (wyA N n d x).2 ≤ 648000000000 * 12960000 :=Nat.mul_le_mul gy.1 gx.2
 refine qf7 hE rfl (qta N M n d W0 W2 W4) (kle rfl) (Nat.zero_le _) hBd hBd fun S q pc hS hq hC hE => ?_
 conv => whnf
 refine qbb hC (HFun.pureR ax (ob6 rfl rfl rfl rfl rfl rfl)) ?_
 conv => whnf
 refine qbb hC (HFun.pureR ay (ob6 rfl rfl rfl rfl rfl rfl)) ?_
 conv => whnf
 refine qad hS (by kernel_rfl) ?_
 conv => whnf
 refine ⟨_,rfl,WkV.eq ?_,rfl,rfl,rfl,rfl,rfl,rfl,trivial⟩
 rw [mulN (a :=(wyA N n d x).1) (b :=(wyA N n d y).2) (by omega),mulN (a :=(wyA N n d y).1) (b :=(wyA N n d x).2) (by omega)]
 exact congrArg AV.bool (decide_eq_decide.2 Int.ofNat_lt)
def bsN (N:List Lk) (n d:Nat) (l:List Lk):Nat → Lk
 | 0 => (0,0,0)
 |i + 1 => if i = 0 ∨ btL N n d (gN l i) (bsN N n d l i) then gN l i else bsN N n d l i
theorem qxb {N:List Lk} {n d:Nat} {l:List Lk} (hl:∀ x,x ∈ l → nwL N x):∀ i,i ≤ l.length → nwL N (bsN N n d l i)
 | 0,_ => ⟨Nat.zero_le _,Nat.zero_le _,Nat.zero_le _⟩
 |i + 1,h => by
  rw [bsN]
  split
  ·exact hl _ (qww l h)
  ·exact qxb hl i (by omega)
def orE {α:Type} (o p:Option α):Option α :=match o with | some x => some x | none => p
def fstO {α:Type} (f:Nat → Option α):Nat → Nat → Option α
 | _,0 => none
 |k,n + 1 => orE (f k) (fstO f (k + 1) n)
def sr0 (N:List Lk) (H:List Nat) (hand:Nat) (t:Nat × Nat) (now:List Lk) (_:Nat):Option (List Lk) :=if suP N now H hand t then some [] else none
def stC (g:List Lk → Nat → Option (List Lk)) (N now:List Lk) (i a b:Nat):Option (List Lk) :=if (gN N i).2 = (a,b) then none else (g (chN now i a b) (i + 1)).map ((i,a,b) :: ·)
def srS (g:List Lk → Nat → Option (List Lk)) (N:List Lk) (lo hi:Nat) (now:List Lk) (fr:Nat):Option (List Lk) :=
 fstO (fun i => fstO (fun a => fstO (fun b => stC g N now i a b) lo (hi + 1 - lo)) lo (hi + 1 - lo)) fr (N.length - fr)
def srV:Option (List Lk) → AV
 |none => .tup [.nils,.bool false]
 |some [] => .tup [.nils,.bool true]
 |some (c :: r) => .tup [nkA (c :: r),.bool true]
theorem qyw (N:List Lk) (i a b j:Nat) (hi:i < N.length):gN (chN N i a b) j = if j = i then ((gN N i).1,a,b) else gN N j :=by
 unfold chN gN
 by_cases e:j = i
 ·subst e
  rw [if_pos rfl,List.getD,List.getElem?_set_self hi];rfl
 ·rw [if_neg e,List.getD,List.getElem?_set_ne (fun z => e z.symm)];rfl
theorem qin (N:List Lk) (i a b:Nat):(chN N i a b).length = N.length :=List.length_set
theorem qw6 (N:List Lk) (i a b j:Nat) (hi:i < N.length):(gN (chN N i a b) j).1 = (gN N j).1 :=by
 rw [qyw N i a b j hi]
 split
 ·rename_i e;subst e;rfl
 ·rfl
theorem qwf {N:List Lk} {i a b:Nat} (hi:i < N.length):∀ (f x:Nat),(trF (chN N i a b) f x).length = (trF N f x).length
 | _,0 => by cases ‹Nat› <;> rfl
 | 0,_ + 1 => rfl
 |f + 1,x + 1 => by rw [trF,trF,List.length_append,List.length_append,qw6 N i a b x hi,qwf hi f];rfl
theorem okN.ch {N:List Lk} (h:okN N) {i a b:Nat} (hi:i < N.length) (ha:tN a) (hb:tN b):okN (chN N i a b) :=by
 refine ⟨fun j hj => ?_,fun j hj => ?_,fun j hj => ?_,fun j hj => ?_⟩
 ·rw [qw6 N i a b j hi];exact h.wf j (by rw [qin] at hj;exact hj)
 ·rw [qin] at hj
  rw [qyw N i a b j hi]
  split
  ·exact ha
  ·exact h.t1 j hj
 ·rw [qin] at hj
  rw [qyw N i a b j hi]
  split
  ·exact hb
  ·exact h.t2 j hj
 ·rw [qin] at hj
  unfold tr
  rw [qwf hi]
  exact h.d j hj
theorem eqPr (cst:Bool) (a b c d:Int):q0 86 cst (fv a b) (fv c d) = @Bool.rec (fun _ => Option Bool) (some false) (@Bool.rec (fun _ => Option Bool) (some false) (some true) (b == d)) (a == c) :=by kernel_rfl
theorem qw4 (cst:Bool) (a b c d:Nat):q0 86 cst (fv (Int.ofNat a) (Int.ofNat b)) (fv (Int.ofNat c) (Int.ofNat d)) = some (decide ((c,d) = (a,b))) :=by
 rw [eqPr]
 by_cases h1:a = c
 ·subst h1
  rw [beq_self_eq_true]
  by_cases h2:b = d
  ·subst h2
   rw [beq_self_eq_true,decide_eq_true rfl]
  ·rw [show (Int.ofNat b == Int.ofNat d) = false from beq_eq_false_iff_ne.2 fun z => h2 (Int.ofNat.inj z),decide_eq_false fun z => h2 (Prod.mk.inj z).2.symm]
 ·rw [show (Int.ofNat a == Int.ofNat c) = false from beq_eq_false_iff_ne.2 fun z => h1 (Int.ofNat.inj z),decide_eq_false fun z => h1 (Prod.mk.inj z).1.symm]
abbrev hpC (N:List Lk) (H:List Nat) (lo hi hand:Nat) (t:Nat × Nat):Tr AObj :=
 .node (.cells (.node (nkA N) (.node (nl (zl H)) .nil .nil) .nil) 2 64) (.node (.cells (.node (nv lo) .nil .nil) 1 3) (.node (.cells (.node (nv hand) .nil .nil) 1 3) (.node .hole (.node .hole (.nil) (.nil)) (.nil)) (.node .hole (.nil) (.nil))) (.node .hole (.node .hole (.nil) (.nil)) (.node (.cells (.node (nv t.1) (.node (nv t.2) .nil .nil) .nil) 2 161) (.nil) (.nil)))) (.node (.cells (.node (nv hi) .nil .nil) 1 3) (.node (.cells (.node (nv t.1) (.node (nv t.2) .nil .nil) .nil) 2 78) (.node .hole (.node (.cells (.node (.func (.func 108) [] [.ptr 12 0,.ptr 3 0,.ptr 13 0,.ptr 0 0,.ptr 1 0,.ptr 2 0,.ptr 16 0]) .nil .nil) 1 162) (.nil) (.nil)) (.nil)) (.node (.cells (.node (nkA N) (.node (nl (zl H)) .nil .nil) (.node (pv (zp (rtL N (N.length + 1)))) .nil .nil)) 3 155) (.nil) (.nil))) (.node .hole (.node .hole (.nil) (.nil)) (.node .hole (.nil) (.nil))))
theorem qs9 (N:List Lk) (H:List Nat) (lo hi hand:Nat) (t:Nat × Nat):HEnd (hpC N H lo hi hand t) 17 :=qc0 [(.cells (.node (nkA N) (.node (nl (zl H)) .nil .nil) .nil) 2 64),(.cells (.node (nv lo) .nil .nil) 1 3),(.cells (.node (nv hi) .nil .nil) 1 3),(.cells (.node (nv hand) .nil .nil) 1 3),(.cells (.node (nv t.1) (.node (nv t.2) .nil .nil) .nil) 2 78),.hole,.hole,.hole,.hole,.hole,.hole,.hole,(.cells (.node (nkA N) (.node (nl (zl H)) .nil .nil) (.node (pv (zp (rtL N (N.length + 1)))) .nil .nil)) 3 155),(.cells (.node (nv t.1) (.node (nv t.2) .nil .nil) .nil) 2 161),.hole,.hole,(.cells (.node (.func (.func 108) [] [.ptr 12 0,.ptr 3 0,.ptr 13 0,.ptr 0 0,.ptr 1 0,.ptr 2 0,.ptr 16 0]) .nil .nil) 1 162)] 0 .nil qeg
abbrev scA (now:List Lk) (H:List Nat) (fr k:Nat):List AV :=[.agg [nkA now,nl (zl H)],nv fr,nv k,.ptr 12 0,.ptr 3 0,.ptr 13 0,.ptr 0 0,.ptr 1 0,.ptr 2 0,.ptr 16 0]
theorem qwu (N:List Lk) (H:List Nat) (lo hi hand:Nat) (t:Nat × Nat):ObBd 17 (hpC N H lo hi hand t) 17 :=by
 have lN :=qa0 (cL N)
 have lM :=qat (zl H)
 have lR :=qaf (zp (rtL N (N.length + 1)))
 repeat' (first|exact trivial|exact Nat.zero_le _|exact qag lN|exact qag lM|exact qag lR|exact kle rfl|apply And.intro|exact Nat.max_le.2 ⟨Nat.zero_le _,qag lN⟩)
theorem qll {N now:List Lk} (h:okN N) (h2:okN now) (h1:1 ≤ N.length) (hN:N.length ≤ 5) (hl:now.length = N.length) {H:List Nat} (hH:hdN N.length H) (lo hi:Nat) {hand:Nat} (hh:hand < H.length) {t:Nat × Nat} (t1:t.1 ≤ 50000) (t2:t.2 ≤ 50000) (fr:Nat) :
  HFun prog 108 (scA now H fr 0) (hv (hpC N H lo hi hand t)) 17 (srV (sr0 N H hand t now fr)) (hv (hpC N H lo hi hand t)) :=by
 have lN :=qa0 (cL N)
 have lN2 :=qa0 (cL now)
 have lM :=qat (zl H)
 have lR :=qaf (zp (rtL N (N.length + 1)))
 have pw :=qhn h2 (by omega) (by omega) (zl H)
 have ps :=qp3 h h2 hN hl hH hh t1 t2
 have lR2 :=qaf (zp (rtL now (now.length + 1)))
 have hb :=qwu N H lo hi hand t
 unfold wiV at pw ps
 have ev:srV (sr0 N H hand t now fr) = .tup [.nils,.bool (decide (suP N now H hand t))] :=by
  unfold sr0
  by_cases e:suP N now H hand t
  ·rw [if_pos e,decide_eq_true e];rfl
  ·rw [if_neg e,decide_eq_false e];rfl
 rw [ev]
 refine qf7 hE rfl (qs9 N H lo hi hand t) (Nat.max_le.2 ⟨Nat.max_le.2 ⟨Nat.max_le.2 ⟨Nat.zero_le _,qag lN2⟩,Nat.max_le.2 ⟨Nat.max_le.2 ⟨Nat.zero_le _,qag lM⟩,Nat.zero_le _⟩⟩,kle rfl⟩) (Nat.zero_le _) hb hb fun S q pc hS hq hC hE => ?_
 conv => whnf
 refine qac hC (pw) ?_
 conv => whnf
 refine qac hC (ps) ?_
 conv => whnf
 refine qad hS (by kernel_rfl) ?_
 conv => whnf
 exact ⟨_,rfl,WkV.refl _,rfl,rfl,rfl,rfl,rfl,rfl,rfl,rfl,rfl,rfl,rfl,rfl,rfl,rfl,rfl,rfl,rfl,trivial⟩
end
end Go.Abs.Seat
