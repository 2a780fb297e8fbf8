/-
  Done, of the program.
-/
import Derived.Test.YtlmadgdonalncaaGreatDoorB86
import Derived.Test.YtlmadgdonalncaaGreatDoorU7
import Derived.Test.YtlmadgdonalncaaGreatDoorU5
namespace Go.Abs.Seat
noncomputable section
open Go Go.Abs Go.Proofs.Tryz
set_option maxRecDepth 100000
set_option maxHeartbeats 40000000
attribute [local irreducible] IntKind.wrap pEq

abbrev Pln :=List Int × Int
def plE:List Pln → List AV
 | [] => []
 |x :: r => nl x.1 :: iv x.2 :: plE r
theorem qrm:∀ a b:List Pln,plE (a ++ b) = plE a ++ plE b
 | [],_ => rfl
 |x :: r,b => by show _ :: _ :: plE (r ++ b) = _;rw [qrm r b];rfl
theorem qep:∀ l,Lives noL (plE l)
 | [] => trivial
 |x :: r => ⟨nl_no x.1,trivial,qep r⟩
theorem qrl:∀ l:List Pln,(plE l).length = l.length * 2
 | [] => rfl
 |x :: r => by rw [plE,List.length_cons,List.length_cons,qrl r,List.length_cons];omega
abbrev capP:List AV :=[.ptr 1 0,.ptr 0 0,.ptr 3 0,.ptr 2 0]
abbrev hpP (W J:List LkI) (X:AObj):Tr AObj :=
 .node (.cells (.node (lkA W) .nil .nil) 1 40) (.node (.cells (.node (lkA J) .nil .nil) 1 41) (.node (.cells (.node (.func (.func 134) [] capP) .nil .nil) 1 188) .nil .nil) .nil) (.node X .nil .nil)
theorem qfm (W J:List LkI) (X:AObj):HEnd (hpP W J X) 4 :=fun i hi => by
 rcases i with _ | _ | _ | _ | i
 ·omega
 ·omega
 ·omega
 ·omega
 ·have h1:∀ (v l r:Nat),True :=fun _ _ _ => trivial
  by_cases e:(i + 3) % 2 = 0
  ·rw [Tr.get_node_even _ _ _ e]
   obtain ⟨j,hj⟩ : ∃ j,(i + 3) / 2 = j + 2 :=⟨(i + 3) / 2 - 2,by omega⟩
   rw [hj]
   by_cases e2:(j + 1) % 2 = 0
   ·rw [Tr.get_node_even _ _ _ e2]
    obtain ⟨k,hk⟩ : ∃ k,(j + 1) / 2 = k + 1 :=⟨(j + 1) / 2 - 1,by omega⟩
    rw [hk,Tr.get_single]
   ·rw [Tr.get_node_odd _ _ _ e2,Tr.get_nil]
  ·rw [Tr.get_node_odd _ _ _ e]
   obtain ⟨j,hj⟩ : ∃ j,(i + 3) / 2 = j + 1 :=⟨(i + 3) / 2 - 1,by omega⟩
   rw [hj,Tr.get_single]
abbrev HP (W J:List LkI) (v:AV) (L L':qdo):Prop :=ql2 prog 134 (v :: capP) (hv (hpP W J .hole)) 4 2 129 2 126 L L' (.tup [])
def lsP:List Pln → qdo
 | [] => none
 |x :: r => some (plE (x :: r),(x :: r).length)
theorem hbdP (W J:List LkI):qt3 4 (hv (hpP W J .hole)) 2 4 :=by
 have lW :=qau W
 have lJ :=qau J
 repeat' (first|exact trivial|exact .inl rfl|apply And.intro|exact qae lW|exact qae lJ|exact Nat.zero_le _|exact kle rfl|refine Or.inr ?_)
theorem qgy {l:List Pln} (h:l ≠ []):lsP l = some (plE l,l.length) :=by
 cases l with
 |nil => exact absurd rfl h
 |cons x r => rfl
theorem bdcP {l:List Pln} {k c n:Nat} (hc:c + 1 ≤ n):bd (.lst (plE l) k (.ch c)) ≤ n :=Nat.max_le.2 ⟨hc,qae (qep l)⟩
theorem qsn (l:List Pln):qcf (plE l) (l.length * 2) = true :=by rw [← qrl];exact qec _
theorem lcP (LS:List Pln) (P:List Int) (w:Int) (c:Nat) (ty:TypeId):AObj.cells (.node (.lst (plE LS ++ [nl P,iv w]) (LS.length + (0 + 1)) (.ch c)) .nil .nil) 1 ty = qbs ty c (some (plE (LS ++ [(P,w)]),(LS ++ [(P,w)]).length)) :=by
 unfold qbs
 rw [qrm,List.length_append];rfl
theorem lhP (LS:List Pln) (x:Pln) (e:TypeId):AObj.chain (LS.length + (0 + 1)) 2 e = lchn 2 e (some (plE (LS ++ [x]),(LS ++ [x]).length)) :=by
 unfold lchn
 rw [List.length_append];rfl
theorem qsq {W J:List LkI} {P:List Int} (hW:areW W) (hJ:areJ J) (h:isPl W J P) (hn:¬ inTm W J P):HP W J (nl P) none none :=by
 have lW :=qau W
 have lJ :=qau J
 have lP :=qal P
 have pD :=qf8 hW hJ h
 have lD :=qal (dnL W J P)
 have hl :=h.1
 have hDl:(dnL W J P).length = J.length :=qgq W J P J.length
 have hJ6 :=hJ.1.2
 refine qdk (h :=hpP W J (qbs 129 4 none)) hE rfl (qfm W J _) rfl (kle rfl) (Nat.max_le.2 ⟨qae lP,kle rfl⟩) (Nat.zero_le _) (hbdP W J) trivial trivial (fun h => absurd rfl h) (by repeat' (first|exact trivial|exact .inl rfl|exact .inr rfl|apply And.intro)) rfl rfl fun S q pc hS hq hC hE => ?_
 conv => whnf
 refine qac (decide_eq_false (show ¬ (P.length:Int) < (J.length:Int) by omega)) ?_
 conv => whnf
 refine qab hC (pD) ?_
 conv => whnf
 refine qa4 hE hS (A :=Nat) [0,1,2,3,4,9,49,50] (fun k => [(51,nv k)]) (fun _ => []) (fun _ => []) (fun k => k ≤ (dnL W J P).length ∧ ∀ j,j < k → ((dyN W J P j:Nat):Int) ≤ (gL J j).2.2) (fun k => (dnL W J P).length - k) 0 (kle rfl) rfl (zhg 4) ⟨Nat.zero_le _,fun _ z => absurd z (Nat.not_lt_zero _)⟩ ?_
 rintro k ⟨hk,hj⟩ N hN
 obtain rfl:N = 4 :=hN
 conv => whnf
 by_cases hk2:k < (dnL W J P).length
 ·have hkJ:k < J.length :=by omega
  have gd :=qbp (l :=dnL W J P) (i :=k) hk2
  have ge:gi (dnL W J P) k = Int.ofNat (dyN W J P k) :=qkv W J P hkJ
  have g2 :=qck J k hkJ
  have hk1:IntKind.i64.wrap (Int.ofNat k + 1) = Int.ofNat (k + 1) :=qa7 (m :=k + 1) (by omega)
  by_cases c:gi (dnL W J P) k > (gL J k).2.2
  ·have c0:decide (gi (dnL W J P) k > (gL J k).2.2) = true :=decide_eq_true c
   try have z62:=qa3 hk2
   try have z63:=qav hk2
   try have z64:=qav hkJ
   repeat ((first|refine qaf (nthP gd) ?_|refine qaf (nthP g2) ?_|refine qai ‹_› ?_|refine qah ‹_› ?_|refine pkT ‹_› ?_|refine qaa ‹_› ?_|refine qao ‹_› ?_|refine qap ‹_› ?_|refine pkF ‹_› ?_|refine qac ‹_› ?_|refine qad hS (by kernel_rfl) ?_);conv => whnf)
   exact ⟨_,4,rfl,WkV.refl _,Nat.le_refl _,fun h => absurd rfl h,by repeat' (first|exact trivial|exact .inl rfl|exact .inr rfl|apply And.intro),rfl,fun h => absurd rfl h⟩
  ·have c0:decide (gi (dnL W J P) k > (gL J k).2.2) = false :=decide_eq_false c
   try have z65:=qa3 hk2
   try have z66:=qav hk2
   try have z67:=qav hkJ
   repeat ((first|refine qaf (nthP gd) ?_|refine qaf (nthP g2) ?_|refine qai ‹_› ?_|refine qah ‹_› ?_|refine pkT ‹_› ?_|refine qaa ‹_› ?_|refine qao ‹_› ?_|refine qap ‹_› ?_|refine pkF ‹_› ?_|refine qac ‹_› ?_|refine qad hS (by kernel_rfl) ?_);conv => whnf)
   exact ⟨k + 1,⟨hk2,fun j z => by
    by_cases e:j = k
    ·rw [e]
     rw [ge] at c
     have c:¬ (gL J k).2.2 < ((dyN W J P k:Nat):Int) :=c
     omega
    ·exact hj j (by omega)⟩,by omega,Nat.le_refl _,(zhg 4)⟩
 ·refine qac (qbn hk2) ?_
  conv => whnf
  refine .inl ?_
  conv => whnf
  exact absurd (fun j z => hj j (by omega)) hn
theorem qsp {W J:List LkI} {P:List Int} {LS:List Pln} (hLS:LS ≠ []) (_hb:LS.length ≤ 1000) (hW:areW W) (hJ:areJ J) (h:isPl W J P) (hn:¬ inTm W J P):HP W J (nl P) (lsP LS) (lsP LS) :=by
 have lW :=qau W
 have lJ :=qau J
 have lP :=qal P
 have pD :=qf8 hW hJ h
 have lD :=qal (dnL W J P)
 have hl :=h.1
 have hDl:(dnL W J P).length = J.length :=qgq W J P J.length
 have hJ6 :=hJ.1.2
 have lS :=qep LS
 rw [qgy hLS]
 refine qdk (n :=5) (h :=appT [.chain LS.length 2 126] 4 (hpP W J (qbs 129 4 (some (plE LS,LS.length))))) hE rfl (show HEnd _ 5 from qcq [_] 4 _ (qfm W J _)) rfl (kle rfl) (Nat.max_le.2 ⟨qae lP,kle rfl⟩) (Nat.zero_le _) (hbdP W J) (qae lS) (qae (qep _)) (fun _ h => nomatch h) (by repeat' (first|exact trivial|exact .inl rfl|exact .inr rfl|apply And.intro)) rfl rfl fun S q pc hS hq hC hE => ?_
 conv => whnf
 refine qac (decide_eq_false (show ¬ (P.length:Int) < (J.length:Int) by omega)) ?_
 conv => whnf
 refine qab hC (pD) ?_
 conv => whnf
 refine qa4 hE hS (A :=Nat) [0,1,2,3,4,9,49,50] (fun k => [(51,nv k)]) (fun _ => []) (fun _ => []) (fun k => k ≤ (dnL W J P).length ∧ ∀ j,j < k → ((dyN W J P j:Nat):Int) ≤ (gL J j).2.2) (fun k => (dnL W J P).length - k) 0 (kle rfl) rfl (zhg 5) ⟨Nat.zero_le _,fun _ z => absurd z (Nat.not_lt_zero _)⟩ ?_
 rintro k ⟨hk,hj⟩ N hN
 obtain rfl:N = 5 :=hN
 conv => whnf
 by_cases hk2:k < (dnL W J P).length
 ·have hkJ:k < J.length :=by omega
  have gd :=qbp (l :=dnL W J P) (i :=k) hk2
  have ge:gi (dnL W J P) k = Int.ofNat (dyN W J P k) :=qkv W J P hkJ
  have g2 :=qck J k hkJ
  have hk1:IntKind.i64.wrap (Int.ofNat k + 1) = Int.ofNat (k + 1) :=qa7 (m :=k + 1) (by omega)
  by_cases c:gi (dnL W J P) k > (gL J k).2.2
  ·have c0:decide (gi (dnL W J P) k > (gL J k).2.2) = true :=decide_eq_true c
   try have z68:=qa3 hk2
   try have z69:=qav hk2
   try have z70:=qav hkJ
   repeat ((first|refine qaf (nthP gd) ?_|refine qaf (nthP g2) ?_|refine qai ‹_› ?_|refine qah ‹_› ?_|refine pkT ‹_› ?_|refine qaa ‹_› ?_|refine qao ‹_› ?_|refine qap ‹_› ?_|refine pkF ‹_› ?_|refine qac ‹_› ?_|refine qad hS (by kernel_rfl) ?_);conv => whnf)
   exact ⟨_,4,rfl,WkV.refl _,Nat.le_refl _,fun _ => rfl,by repeat' (first|exact trivial|exact .inl rfl|exact .inr rfl|apply And.intro),rfl,fun _ => rfl⟩
  ·have c0:decide (gi (dnL W J P) k > (gL J k).2.2) = false :=decide_eq_false c
   try have z71:=qa3 hk2
   try have z72:=qav hk2
   try have z73:=qav hkJ
   repeat ((first|refine qaf (nthP gd) ?_|refine qaf (nthP g2) ?_|refine qai ‹_› ?_|refine qah ‹_› ?_|refine pkT ‹_› ?_|refine qaa ‹_› ?_|refine qao ‹_› ?_|refine qap ‹_› ?_|refine pkF ‹_› ?_|refine qac ‹_› ?_|refine qad hS (by kernel_rfl) ?_);conv => whnf)
   exact ⟨k + 1,⟨hk2,fun j z => by
    by_cases e:j = k
    ·rw [e]
     rw [ge] at c
     have c:¬ (gL J k).2.2 < ((dyN W J P k:Nat):Int) :=c
     omega
    ·exact hj j (by omega)⟩,by omega,Nat.le_refl _,(zhg 5)⟩
 ·refine qac (qbn hk2) ?_
  conv => whnf
  refine .inl ?_
  conv => whnf
  exact absurd (fun j z => hj j (by omega)) hn
theorem qqf {W J:List LkI} {P:List Int} (hW:areW W) (hJ:areJ J) (h:isPl W J P) (hn:inTm W J P):HP W J (nl P) none (lsP [(P,wgJ W J P P.length)]) :=by
 have lW :=qau W
 have lJ :=qau J
 have lP :=qal P
 have pD :=qf8 hW hJ h
 have lD :=qal (dnL W J P)
 have hl :=h.1
 have hDl:(dnL W J P).length = J.length :=qgq W J P J.length
 have hJ6 :=hJ.1.2
 refine qdk (h :=hpP W J (qbs 129 4 none)) hE rfl (qfm W J _) rfl (kle rfl) (Nat.max_le.2 ⟨qae lP,kle rfl⟩) (Nat.zero_le _) (hbdP W J) trivial (qae (qep _)) (fun h => absurd rfl h) (by repeat' (first|exact trivial|exact .inl rfl|exact .inr rfl|apply And.intro)) rfl rfl fun S q pc hS hq hC hE => ?_
 conv => whnf
 refine qac (decide_eq_false (show ¬ (P.length:Int) < (J.length:Int) by omega)) ?_
 conv => whnf
 refine qab hC (pD) ?_
 conv => whnf
 refine qa4 hE hS (A :=Nat) [0,1,2,3,4,9,49,50] (fun k => [(51,nv k)]) (fun _ => []) (fun _ => []) (fun k => k ≤ (dnL W J P).length ∧ ∀ j,j < k → ((dyN W J P j:Nat):Int) ≤ (gL J j).2.2) (fun k => (dnL W J P).length - k) 0 (kle rfl) rfl (zhg 4) ⟨Nat.zero_le _,fun _ z => absurd z (Nat.not_lt_zero _)⟩ ?_
 rintro k ⟨hk,hj⟩ N hN
 obtain rfl:N = 4 :=hN
 conv => whnf
 by_cases hk2:k < (dnL W J P).length
 ·have hkJ:k < J.length :=by omega
  have gd :=qbp (l :=dnL W J P) (i :=k) hk2
  have ge:gi (dnL W J P) k = Int.ofNat (dyN W J P k) :=qkv W J P hkJ
  have g2 :=qck J k hkJ
  have hk1:IntKind.i64.wrap (Int.ofNat k + 1) = Int.ofNat (k + 1) :=qa7 (m :=k + 1) (by omega)
  by_cases c:gi (dnL W J P) k > (gL J k).2.2
  ·exfalso
   have :=hn k hkJ
   rw [ge] at c
   have c:(gL J k).2.2 < ((dyN W J P k:Nat):Int) :=c
   omega
  ·have c0:decide (gi (dnL W J P) k > (gL J k).2.2) = false :=decide_eq_false c
   try have z74:=qa3 hk2
   try have z75:=qav hk2
   try have z76:=qav hkJ
   repeat ((first|refine qaf (nthP gd) ?_|refine qaf (nthP g2) ?_|refine qai ‹_› ?_|refine qah ‹_› ?_|refine pkT ‹_› ?_|refine qaa ‹_› ?_|refine qao ‹_› ?_|refine qap ‹_› ?_|refine pkF ‹_› ?_|refine qac ‹_› ?_|refine qad hS (by kernel_rfl) ?_);conv => whnf)
   exact ⟨k + 1,⟨hk2,fun j z => by
    by_cases e:j = k
    ·rw [e]
     rw [ge] at c
     have c:¬ (gL J k).2.2 < ((dyN W J P k:Nat):Int) :=c
     omega
    ·exact hj j (by omega)⟩,by omega,Nat.le_refl _,(zhg 4)⟩
 ·refine qac (qbn hk2) ?_
  conv => whnf
  refine .inl ?_
  conv => whnf
  exact ⟨_,4,rfl,WkV.refl _,Nat.le_refl _,fun h => absurd rfl h,by repeat' (first|exact trivial|exact .inl rfl|exact .inr rfl|apply And.intro),rfl,fun _ => rfl⟩
theorem qqe {W J:List LkI} {P:List Int} {LS:List Pln} (hLS:LS ≠ []) (hb:LS.length ≤ 1000) (hW:areW W) (hJ:areJ J) (h:isPl W J P) (hn:inTm W J P):HP W J (nl P) (lsP LS) (lsP (LS ++ [(P,wgJ W J P P.length)])) :=by
 have lW :=qau W
 have lJ :=qau J
 have lP :=qal P
 have pD :=qf8 hW hJ h
 have lD :=qal (dnL W J P)
 have hl :=h.1
 have hDl:(dnL W J P).length = J.length :=qgq W J P J.length
 have hJ6 :=hJ.1.2
 have lS :=qep LS
 rw [qgy hLS,qgy (show LS ++ [(P,wgJ W J P P.length)] ≠ [] by simp)]
 refine qdk (n :=5) (h :=appT [.chain LS.length 2 126] 4 (hpP W J (qbs 129 4 (some (plE LS,LS.length))))) hE rfl (show HEnd _ 5 from qcq [_] 4 _ (qfm W J _)) rfl (kle rfl) (Nat.max_le.2 ⟨qae lP,kle rfl⟩) (Nat.zero_le _) (hbdP W J) (qae lS) (qae (qep _)) (fun _ h => nomatch h) (by repeat' (first|exact trivial|exact .inl rfl|exact .inr rfl|apply And.intro)) rfl rfl fun S q pc hS hq hC hE => ?_
 conv => whnf
 refine qac (decide_eq_false (show ¬ (P.length:Int) < (J.length:Int) by omega)) ?_
 conv => whnf
 refine qab hC (pD) ?_
 conv => whnf
 refine qa4 hE hS (A :=Nat) [0,1,2,3,4,9,49,50] (fun k => [(51,nv k)]) (fun _ => []) (fun _ => []) (fun k => k ≤ (dnL W J P).length ∧ ∀ j,j < k → ((dyN W J P j:Nat):Int) ≤ (gL J j).2.2) (fun k => (dnL W J P).length - k) 0 (kle rfl) rfl (zhg 5) ⟨Nat.zero_le _,fun _ z => absurd z (Nat.not_lt_zero _)⟩ ?_
 rintro k ⟨hk,hj⟩ N hN
 obtain rfl:N = 5 :=hN
 conv => whnf
 by_cases hk2:k < (dnL W J P).length
 ·have hkJ:k < J.length :=by omega
  have gd :=qbp (l :=dnL W J P) (i :=k) hk2
  have ge:gi (dnL W J P) k = Int.ofNat (dyN W J P k) :=qkv W J P hkJ
  have g2 :=qck J k hkJ
  have hk1:IntKind.i64.wrap (Int.ofNat k + 1) = Int.ofNat (k + 1) :=qa7 (m :=k + 1) (by omega)
  by_cases c:gi (dnL W J P) k > (gL J k).2.2
  ·exfalso
   have :=hn k hkJ
   rw [ge] at c
   have c:(gL J k).2.2 < ((dyN W J P k:Nat):Int) :=c
   omega
  ·have c0:decide (gi (dnL W J P) k > (gL J k).2.2) = false :=decide_eq_false c
   try have z77:=qa3 hk2
   try have z78:=qav hk2
   try have z79:=qav hkJ
   repeat ((first|refine qaf (nthP gd) ?_|refine qaf (nthP g2) ?_|refine qai ‹_› ?_|refine qah ‹_› ?_|refine pkT ‹_› ?_|refine qaa ‹_› ?_|refine qao ‹_› ?_|refine qap ‹_› ?_|refine pkF ‹_› ?_|refine qac ‹_› ?_|refine qad hS (by kernel_rfl) ?_);conv => whnf)
   exact ⟨k + 1,⟨hk2,fun j z => by
    by_cases e:j = k
    ·rw [e]
     rw [ge] at c
     have c:¬ (gL J k).2.2 < ((dyN W J P k:Nat):Int) :=c
     omega
    ·exact hj j (by omega)⟩,by omega,Nat.le_refl _,(zhg 5)⟩
 ·refine qac (qbn hk2) ?_
  conv => whnf
  refine .inl ?_
  conv => whnf
  refine qaa (decide_eq_true (show (LS.length + (0 + 1)) * 32 ≤ 140737488355328 by omega)) ?_
  conv => whnf
  refine qaa (decide_eq_true (show LS.length + (0 + 1) ≤ 9223372036854775807 by omega)) ?_
  conv => whnf
  refine qaa (qsn LS) ?_
  conv => whnf
  refine qaa (decide_eq_true rfl) ?_
  conv => whnf
  exact ⟨_,4,rfl,WkV.refl _,Nat.le_refl _,fun _ => rfl,by repeat' (first|exact trivial|exact .inl rfl|exact .inr rfl|apply And.intro),lcP LS _ _ 4 _,fun _ => lhP LS _ _⟩
end
end Go.Abs.Seat
