/-
  Done, of the program.
-/
import Derived.Test.YtlmadgdonalncaaGreatDoorB86
import Derived.Test.YtlmadgdonalncaaGreatDoorU7
import Derived.Test.YtlmadgdonalncaaGreatDoorU5
namespace Go.Abs.Seat
noncomputable section
open Go Go.Abs Go.Proofs.Tryz
set_option maxRecDepth 100000
set_option maxHeartbeats 40000000
attribute [local irreducible] IntKind.wrap pEq
theorem qsg (cst:Bool) (m:Int):q0 20 cst (.iface 122 (.agg [iv m])) .nili = some false :=by kernel_rfl
theorem qtd {x y h:AV} {W J:List LkI} {P:List Int} (hx:LL x W) (hy:LL y J) (hh:IL h P) (hn:¬ (areW W ∧ areJ J)):Pure prog 24 [x,y,h] (.tup [.nils,iv 0,iv 2]) :=by
 have lx :=hx.no
 have ly :=hy.no
 have lh :=hh.no
 have pa :=qez hx
 have pb :=qe0 hy
 by_cases a:areW W
 ·have b:¬ areJ J :=fun z => hn ⟨a,z⟩
  have ea:(!decide (areW W)) = false :=nt_t (decide_eq_true a)
  have eb:(!decide (areJ J)) = true :=nt_f (decide_eq_false b)
  rcases hx with ⟨rfl,_⟩ | rfl <;> rcases hy with ⟨rfl,_⟩ | rfl <;> rcases hh with ⟨rfl,_⟩ | rfl
  all_goals
   refine qar hE rfl (by repeat' first|exact trivial|assumption|exact qag _|exact fun _ h => nomatch h|apply And.intro) (by repeat' first|exact trivial|assumption|exact qag _|exact fun _ h => nomatch h|apply And.intro) fun S q pc hS hq hC hE => ?_
   conv => whnf
   repeat ((first|refine qai ‹_› ?_|refine qah ‹_› ?_|refine pkT ‹_› ?_|refine qaa ‹_› ?_|refine qao ‹_› ?_|refine qap ‹_› ?_|refine pkF ‹_› ?_|refine qac ‹_› ?_|refine qai (gff ‹_›) ?_|refine qah (gff ‹_›) ?_|refine pkT (gff ‹_›) ?_|refine qaa (gff ‹_›) ?_|refine qab hC (pa) ?_|refine qab hC (pb) ?_|refine qae hS (by kernel_rfl) ?_);conv => whnf)
   exact ⟨_,rfl,Wk.refl _⟩
 ·have ea:(!decide (areW W)) = true :=nt_f (decide_eq_false a)
  rcases hx with ⟨rfl,_⟩ | rfl <;> rcases hy with ⟨rfl,_⟩ | rfl <;> rcases hh with ⟨rfl,_⟩ | rfl
  all_goals
   refine qar hE rfl (by repeat' first|exact trivial|assumption|exact qag _|exact fun _ h => nomatch h|apply And.intro) (by repeat' first|exact trivial|assumption|exact qag _|exact fun _ h => nomatch h|apply And.intro) fun S q pc hS hq hC hE => ?_
   conv => whnf
   repeat ((first|refine qai ea ?_|refine qah ea ?_|refine pkT ea ?_|refine qaa ea ?_|refine qao (gft ea) ?_|refine qap (gft ea) ?_|refine pkF (gft ea) ?_|refine qac (gft ea) ?_|refine qab hC (pa) ?_|refine qab hC (pb) ?_|refine qae hS (by kernel_rfl) ?_);conv => whnf)
   exact ⟨_,rfl,Wk.refl _⟩
theorem qjd {W J:List LkI} {P:List Int} (hW:areW W) (hJ:areJ J) (h:isPl W J P):Pure prog 24 [lkA W,lkA J,nl P] (.tup [nl (dnL W J P),iv (wgJ W J P P.length),iv 0]) :=by
 have lW :=qay W
 have lJ :=qay J
 have lP :=qat P
 have lD :=qat (dnL W J P)
 have ea:(!decide (areW W)) = false :=nt_t (decide_eq_true hW)
 have eb:(!decide (areJ J)) = false :=nt_t (decide_eq_true hJ)
 refine qar hE rfl (by repeat' first|exact trivial|assumption|exact qag _|exact fun _ h => nomatch h|apply And.intro) (by repeat' first|exact trivial|assumption|exact qag _|exact fun _ h => nomatch h|apply And.intro) fun S q pc hS hq hC hE => ?_
 conv => whnf
 repeat ((first|refine qao ‹_› ?_|refine qap ‹_› ?_|refine pkF ‹_› ?_|refine qac ‹_› ?_|refine qai (gff ‹_›) ?_|refine qah (gff ‹_›) ?_|refine pkT (gff ‹_›) ?_|refine qaa (gff ‹_›) ?_|refine qab hC (qez (.inr rfl:LL (lkA W) W)) ?_|refine qab hC (qe0 (.inr rfl:LL (lkA J) J)) ?_|refine qab hC (qeu hW hJ h) ?_|refine qae hS (by kernel_rfl) ?_);conv => whnf)
 refine quv hE hS ?_
 conv => whnf
 refine qda hq true que ?_
 conv => whnf
 exact ⟨_,rfl,Wk.refl _⟩
theorem qqd {W J:List LkI} {h:AV} {P:List Int} (hW:areW W) (hJ:areJ J) (hh:IL h P) (hp:P.length ≤ 8) (hn:¬ isPl W J P):Pure prog 24 [lkA W,lkA J,h] (.tup [.nils,iv 0,iv 2]) :=by
 have lW :=qay W
 have lJ :=qay J
 have lh :=hh.no
 have ea:(!decide (areW W)) = false :=nt_t (decide_eq_true hW)
 have eb:(!decide (areJ J)) = false :=nt_t (decide_eq_true hJ)
 obtain ⟨n,pf⟩ : ∃ n:Int,qm9 prog 73 [lkA W,lkA J,h] [(.iface 122 (.agg [iv n]),false)] :=by
  rcases hh with ⟨rfl,rfl⟩ | rfl
  ·exact ⟨0,qmx hJ.1.1⟩
  ·by_cases hl:P.length = J.length
   ·obtain ⟨z,h1,h2,h3⟩ :=qr5 hl hn
    exact ⟨Int.ofNat z,qmz hW hJ hl h1 h2 h3⟩
   ·exact ⟨_,qmy hl hp⟩
 rcases hh with ⟨rfl,_⟩ | rfl
 all_goals
  refine qar hE rfl (by repeat' first|exact trivial|assumption|exact qag _|exact fun _ h => nomatch h|apply And.intro) (by repeat' first|exact trivial|assumption|exact qag _|exact fun _ h => nomatch h|apply And.intro) fun S q pc hS hq hC hE => ?_
  conv => whnf
  repeat ((first|refine qao ‹_› ?_|refine qap ‹_› ?_|refine pkF ‹_› ?_|refine qac ‹_› ?_|refine qai (gff ‹_›) ?_|refine qah (gff ‹_›) ?_|refine pkT (gff ‹_›) ?_|refine qaa (gff ‹_›) ?_|refine qab hC (qez (.inr rfl:LL (lkA W) W)) ?_|refine qab hC (qe0 (.inr rfl:LL (lkA J) J)) ?_|refine qae hS (by kernel_rfl) ?_);conv => whnf)
  refine qas hC ?_
  conv => whnf
  refine qp0 hS (pf) ?_
  conv => whnf
  refine quv hE hS ?_
  conv => whnf
  refine qda hq false (qsg _ _) ?_
  conv => whnf
  exact ⟨_,rfl,Wk.refl _⟩
abbrev Pln :=List Int × Int
def plE:List Pln → List AV
 | [] => []
 |x :: r => nl x.1 :: iv x.2 :: plE r
theorem qql:∀ a b:List Pln,plE (a ++ b) = plE a ++ plE b
 | [],_ => rfl
 |x :: r,b => by show _ :: _ :: plE (r ++ b) = _;rw [qql r b];rfl
theorem qen:∀ l,Lives noL (plE l)
 | [] => trivial
 |x :: r => ⟨nl_no x.1,trivial,qen r⟩
theorem qqk:∀ l:List Pln,(plE l).length = l.length * 2
 | [] => rfl
 |x :: r => by rw [plE,List.length_cons,List.length_cons,qqk r,List.length_cons];omega
abbrev capP:List AV :=[.ptr 1 0,.ptr 0 0,.ptr 3 0,.ptr 2 0]
abbrev hpP (W J:List LkI) (X:AObj):Tr AObj :=
 .node (.cells (.node (lkA W) .nil .nil) 1 40) (.node (.cells (.node (lkA J) .nil .nil) 1 41) (.node (.cells (.node (.func (.func 134) [] capP) .nil .nil) 1 188) .nil .nil) .nil) (.node X .nil .nil)
theorem qfk (W J:List LkI) (X:AObj):HEnd (hpP W J X) 4 :=fun i hi => by
 rcases i with _ | _ | _ | _ | i
 ·omega
 ·omega
 ·omega
 ·omega
 ·have h1:∀ (v l r:Nat),True :=fun _ _ _ => trivial
  by_cases e:(i + 3) % 2 = 0
  ·rw [Tr.get_node_even _ _ _ e]
   obtain ⟨j,hj⟩ : ∃ j,(i + 3) / 2 = j + 2 :=⟨(i + 3) / 2 - 2,by omega⟩
   rw [hj]
   by_cases e2:(j + 1) % 2 = 0
   ·rw [Tr.get_node_even _ _ _ e2]
    obtain ⟨k,hk⟩ : ∃ k,(j + 1) / 2 = k + 1 :=⟨(j + 1) / 2 - 1,by omega⟩
    rw [hk,Tr.get_single]
   ·rw [Tr.get_node_odd _ _ _ e2,Tr.get_nil]
  ·rw [Tr.get_node_odd _ _ _ e]
   obtain ⟨j,hj⟩ : ∃ j,(i + 3) / 2 = j + 1 :=⟨(i + 3) / 2 - 1,by omega⟩
   rw [hj,Tr.get_single]
abbrev HP (W J:List LkI) (v:AV) (L L':qdn):Prop :=qlk prog 134 (v :: capP) (hv (hpP W J .hole)) 4 2 129 2 126 L L' (.tup [])
def lsP:List Pln → qdn
 | [] => none
 |x :: r => some (plE (x :: r),(x :: r).length)
theorem hbdP (W J:List LkI):qsv 4 (hv (hpP W J .hole)) 2 4 :=by
 have lW :=qay W
 have lJ :=qay J
 repeat' (first|exact trivial|exact .inl rfl|apply And.intro|exact qad lW|exact qad lJ|exact Nat.zero_le _|exact kle rfl|refine Or.inr ?_)
theorem qgo {l:List Pln} (h:l ≠ []):lsP l = some (plE l,l.length) :=by
 cases l with
 |nil => exact absurd rfl h
 |cons x r => rfl
theorem bdcP {l:List Pln} {k c n:Nat} (hc:c + 1 ≤ n):bd (.lst (plE l) k (.ch c)) ≤ n :=Nat.max_le.2 ⟨hc,qad (qen l)⟩
theorem qrm (l:List Pln):qca (plE l) (l.length * 2) = true :=by rw [← qqk];exact qdt _
theorem lcP (LS:List Pln) (P:List Int) (w:Int) (c:Nat) (ty:TypeId):AObj.cells (.node (.lst (plE LS ++ [nl P,iv w]) (LS.length + (0 + 1)) (.ch c)) .nil .nil) 1 ty = qbx ty c (some (plE (LS ++ [(P,w)]),(LS ++ [(P,w)]).length)) :=by
 unfold qbx
 rw [qql,List.length_append];rfl
theorem lhP (LS:List Pln) (x:Pln) (e:TypeId):AObj.chain (LS.length + (0 + 1)) 2 e = lchn 2 e (some (plE (LS ++ [x]),(LS ++ [x]).length)) :=by
 unfold lchn
 rw [List.length_append];rfl
theorem qrp {W J:List LkI} {P:List Int} (hW:areW W) (hJ:areJ J) (h:isPl W J P) (hn:¬ inTm W J P):HP W J (nl P) none none :=by
 have lW :=qay W
 have lJ :=qay J
 have lP :=qat P
 have pD :=qeu hW hJ h
 have lD :=qat (dnL W J P)
 have hl :=h.1
 have hDl:(dnL W J P).length = J.length :=qcw W J P J.length
 have hJ6 :=hJ.1.2
 refine qdl (h :=hpP W J (qbx 129 4 none)) hE rfl (qfk W J _) rfl (kle rfl) (Nat.max_le.2 ⟨qad lP,kle rfl⟩) (Nat.zero_le _) (hbdP W J) trivial trivial (fun h => absurd rfl h) (by repeat' (first|exact trivial|exact .inl rfl|exact .inr rfl|apply And.intro)) rfl rfl fun S q pc hS hq hC hE => ?_
 conv => whnf
 refine qac (decide_eq_false (show ¬ (P.length:Int) < (J.length:Int) by omega)) ?_
 conv => whnf
 refine qab hC (pD) ?_
 conv => whnf
 refine qaz hE hS (A :=Nat) [0,1,2,3,4,9,49,50] (fun k => [(51,nv k)]) (fun _ => []) (fun _ => []) (fun k => k ≤ (dnL W J P).length ∧ ∀ j,j < k → ((dyN W J P j:Nat):Int) ≤ (gL J j).2.2) (fun k => (dnL W J P).length - k) 0 (kle rfl) rfl (by refine ⟨rfl,rfl,rfl,rfl,rfl,rfl,4,rfl,?_,?_⟩ <;> repeat' (first|exact trivial|exact rfl|exact wkr rfl|exact wko rfl|exact Nat.zero_le _|exact qad lW|exact qad lJ|exact qad lP|exact qad lD|exact kle rfl|exact bdq|exact mxI rfl|exact mxS rfl|apply And.intro)) ⟨Nat.zero_le _,fun _ z => absurd z (Nat.not_lt_zero _)⟩ ?_
 rintro k ⟨hk,hj⟩ N hN
 obtain rfl:N = 4 :=hN
 conv => whnf
 by_cases hk2:k < (dnL W J P).length
 ·have hkJ:k < J.length :=by omega
  have gd :=qbb (l :=dnL W J P) (i :=k) hk2
  have ge:gi (dnL W J P) k = Int.ofNat (dyN W J P k) :=qev W J P hkJ
  have g2 :=qbu J k hkJ
  have hk1:IntKind.i64.wrap (Int.ofNat k + 1) = Int.ofNat (k + 1) :=qa5 (m :=k + 1) (by omega)
  by_cases c:gi (dnL W J P) k > (gL J k).2.2
  ·have c0:decide (gi (dnL W J P) k > (gL J k).2.2) = true :=decide_eq_true c
   try have z214:=qav hk2
   try have z215:=qaj hk2
   try have z216:=qaj hkJ
   repeat ((first|refine qaf (nthP gd) ?_|refine qaf (nthP g2) ?_|refine qai ‹_› ?_|refine qah ‹_› ?_|refine pkT ‹_› ?_|refine qaa ‹_› ?_|refine qao ‹_› ?_|refine qap ‹_› ?_|refine pkF ‹_› ?_|refine qac ‹_› ?_|refine qae hS (by kernel_rfl) ?_);conv => whnf)
   exact ⟨_,4,rfl,WkV.refl _,Nat.le_refl _,fun h => absurd rfl h,by repeat' (first|exact trivial|exact .inl rfl|exact .inr rfl|apply And.intro),rfl,fun h => absurd rfl h⟩
  ·have c0:decide (gi (dnL W J P) k > (gL J k).2.2) = false :=decide_eq_false c
   try have z217:=qav hk2
   try have z218:=qaj hk2
   try have z219:=qaj hkJ
   repeat ((first|refine qaf (nthP gd) ?_|refine qaf (nthP g2) ?_|refine qai ‹_› ?_|refine qah ‹_› ?_|refine pkT ‹_› ?_|refine qaa ‹_› ?_|refine qao ‹_› ?_|refine qap ‹_› ?_|refine pkF ‹_› ?_|refine qac ‹_› ?_|refine qae hS (by kernel_rfl) ?_);conv => whnf)
   exact ⟨k + 1,⟨hk2,fun j z => by
    by_cases e:j = k
    ·rw [e]
     rw [ge] at c
     have c:¬ (gL J k).2.2 < ((dyN W J P k:Nat):Int) :=c
     omega
    ·exact hj j (by omega)⟩,by omega,Nat.le_refl _,(by refine ⟨rfl,rfl,rfl,rfl,rfl,rfl,4,rfl,?_,?_⟩ <;> repeat' (first|exact trivial|exact rfl|exact wkr rfl|exact wko rfl|exact Nat.zero_le _|exact ⟨_,rfl,WkV.int hk1⟩|exact qad lW|exact qad lJ|exact qad lP|exact qad lD|exact kle rfl|exact bdq|exact mxI rfl|exact mxS rfl|apply And.intro))⟩
 ·refine qac (qbh hk2) ?_
  conv => whnf
  refine .inl ?_
  conv => whnf
  exact absurd (fun j z => hj j (by omega)) hn
theorem qro {W J:List LkI} {P:List Int} {LS:List Pln} (hLS:LS ≠ []) (_hb:LS.length ≤ 1000) (hW:areW W) (hJ:areJ J) (h:isPl W J P) (hn:¬ inTm W J P):HP W J (nl P) (lsP LS) (lsP LS) :=by
 have lW :=qay W
 have lJ :=qay J
 have lP :=qat P
 have pD :=qeu hW hJ h
 have lD :=qat (dnL W J P)
 have hl :=h.1
 have hDl:(dnL W J P).length = J.length :=qcw W J P J.length
 have hJ6 :=hJ.1.2
 have lS :=qen LS
 rw [qgo hLS]
 refine qdl (n :=5) (h :=appT [.chain LS.length 2 126] 4 (hpP W J (qbx 129 4 (some (plE LS,LS.length))))) hE rfl (show HEnd _ 5 from qc1 [_] 4 _ (qfk W J _)) rfl (kle rfl) (Nat.max_le.2 ⟨qad lP,kle rfl⟩) (Nat.zero_le _) (hbdP W J) (qad lS) (qad (qen _)) (fun _ h => nomatch h) (by repeat' (first|exact trivial|exact .inl rfl|exact .inr rfl|apply And.intro)) rfl rfl fun S q pc hS hq hC hE => ?_
 conv => whnf
 refine qac (decide_eq_false (show ¬ (P.length:Int) < (J.length:Int) by omega)) ?_
 conv => whnf
 refine qab hC (pD) ?_
 conv => whnf
 refine qaz hE hS (A :=Nat) [0,1,2,3,4,9,49,50] (fun k => [(51,nv k)]) (fun _ => []) (fun _ => []) (fun k => k ≤ (dnL W J P).length ∧ ∀ j,j < k → ((dyN W J P j:Nat):Int) ≤ (gL J j).2.2) (fun k => (dnL W J P).length - k) 0 (kle rfl) rfl (by refine ⟨rfl,rfl,rfl,rfl,rfl,rfl,5,rfl,?_,?_⟩ <;> repeat' (first|exact trivial|exact rfl|exact wkr rfl|exact wko rfl|exact Nat.zero_le _|exact qad lW|exact qad lJ|exact qad lP|exact qad lD|exact bdcP (kle rfl)|exact kle rfl|exact bdq|exact mxI rfl|exact mxS rfl|apply And.intro)) ⟨Nat.zero_le _,fun _ z => absurd z (Nat.not_lt_zero _)⟩ ?_
 rintro k ⟨hk,hj⟩ N hN
 obtain rfl:N = 5 :=hN
 conv => whnf
 by_cases hk2:k < (dnL W J P).length
 ·have hkJ:k < J.length :=by omega
  have gd :=qbb (l :=dnL W J P) (i :=k) hk2
  have ge:gi (dnL W J P) k = Int.ofNat (dyN W J P k) :=qev W J P hkJ
  have g2 :=qbu J k hkJ
  have hk1:IntKind.i64.wrap (Int.ofNat k + 1) = Int.ofNat (k + 1) :=qa5 (m :=k + 1) (by omega)
  by_cases c:gi (dnL W J P) k > (gL J k).2.2
  ·have c0:decide (gi (dnL W J P) k > (gL J k).2.2) = true :=decide_eq_true c
   try have z220:=qav hk2
   try have z221:=qaj hk2
   try have z222:=qaj hkJ
   repeat ((first|refine qaf (nthP gd) ?_|refine qaf (nthP g2) ?_|refine qai ‹_› ?_|refine qah ‹_› ?_|refine pkT ‹_› ?_|refine qaa ‹_› ?_|refine qao ‹_› ?_|refine qap ‹_› ?_|refine pkF ‹_› ?_|refine qac ‹_› ?_|refine qae hS (by kernel_rfl) ?_);conv => whnf)
   exact ⟨_,4,rfl,WkV.refl _,Nat.le_refl _,fun _ => rfl,by repeat' (first|exact trivial|exact .inl rfl|exact .inr rfl|apply And.intro),rfl,fun _ => rfl⟩
  ·have c0:decide (gi (dnL W J P) k > (gL J k).2.2) = false :=decide_eq_false c
   try have z223:=qav hk2
   try have z224:=qaj hk2
   try have z225:=qaj hkJ
   repeat ((first|refine qaf (nthP gd) ?_|refine qaf (nthP g2) ?_|refine qai ‹_› ?_|refine qah ‹_› ?_|refine pkT ‹_› ?_|refine qaa ‹_› ?_|refine qao ‹_› ?_|refine qap ‹_› ?_|refine pkF ‹_› ?_|refine qac ‹_› ?_|refine qae hS (by kernel_rfl) ?_);conv => whnf)
   exact ⟨k + 1,⟨hk2,fun j z => by
    by_cases e:j = k
    ·rw [e]
     rw [ge] at c
     have c:¬ (gL J k).2.2 < ((dyN W J P k:Nat):Int) :=c
     omega
    ·exact hj j (by omega)⟩,by omega,Nat.le_refl _,(by refine ⟨rfl,rfl,rfl,rfl,rfl,rfl,5,rfl,?_,?_⟩ <;> repeat' (first|exact trivial|exact rfl|exact wkr rfl|exact wko rfl|exact Nat.zero_le _|exact ⟨_,rfl,WkV.int hk1⟩|exact qad lW|exact qad lJ|exact qad lP|exact qad lD|exact bdcP (kle rfl)|exact kle rfl|exact bdq|exact mxI rfl|exact mxS rfl|apply And.intro))⟩
 ·refine qac (qbh hk2) ?_
  conv => whnf
  refine .inl ?_
  conv => whnf
  exact absurd (fun j z => hj j (by omega)) hn
theorem qpi {W J:List LkI} {P:List Int} (hW:areW W) (hJ:areJ J) (h:isPl W J P) (hn:inTm W J P):HP W J (nl P) none (lsP [(P,wgJ W J P P.length)]) :=by
 have lW :=qay W
 have lJ :=qay J
 have lP :=qat P
 have pD :=qeu hW hJ h
 have lD :=qat (dnL W J P)
 have hl :=h.1
 have hDl:(dnL W J P).length = J.length :=qcw W J P J.length
 have hJ6 :=hJ.1.2
 refine qdl (h :=hpP W J (qbx 129 4 none)) hE rfl (qfk W J _) rfl (kle rfl) (Nat.max_le.2 ⟨qad lP,kle rfl⟩) (Nat.zero_le _) (hbdP W J) trivial (qad (qen _)) (fun h => absurd rfl h) (by repeat' (first|exact trivial|exact .inl rfl|exact .inr rfl|apply And.intro)) rfl rfl fun S q pc hS hq hC hE => ?_
 conv => whnf
 refine qac (decide_eq_false (show ¬ (P.length:Int) < (J.length:Int) by omega)) ?_
 conv => whnf
 refine qab hC (pD) ?_
 conv => whnf
 refine qaz hE hS (A :=Nat) [0,1,2,3,4,9,49,50] (fun k => [(51,nv k)]) (fun _ => []) (fun _ => []) (fun k => k ≤ (dnL W J P).length ∧ ∀ j,j < k → ((dyN W J P j:Nat):Int) ≤ (gL J j).2.2) (fun k => (dnL W J P).length - k) 0 (kle rfl) rfl (by refine ⟨rfl,rfl,rfl,rfl,rfl,rfl,4,rfl,?_,?_⟩ <;> repeat' (first|exact trivial|exact rfl|exact wkr rfl|exact wko rfl|exact Nat.zero_le _|exact qad lW|exact qad lJ|exact qad lP|exact qad lD|exact kle rfl|exact bdq|exact mxI rfl|exact mxS rfl|apply And.intro)) ⟨Nat.zero_le _,fun _ z => absurd z (Nat.not_lt_zero _)⟩ ?_
 rintro k ⟨hk,hj⟩ N hN
 obtain rfl:N = 4 :=hN
 conv => whnf
 by_cases hk2:k < (dnL W J P).length
 ·have hkJ:k < J.length :=by omega
  have gd :=qbb (l :=dnL W J P) (i :=k) hk2
  have ge:gi (dnL W J P) k = Int.ofNat (dyN W J P k) :=qev W J P hkJ
  have g2 :=qbu J k hkJ
  have hk1:IntKind.i64.wrap (Int.ofNat k + 1) = Int.ofNat (k + 1) :=qa5 (m :=k + 1) (by omega)
  by_cases c:gi (dnL W J P) k > (gL J k).2.2
  ·exfalso
   have :=hn k hkJ
   rw [ge] at c
   have c:(gL J k).2.2 < ((dyN W J P k:Nat):Int) :=c
   omega
  ·have c0:decide (gi (dnL W J P) k > (gL J k).2.2) = false :=decide_eq_false c
   try have z226:=qav hk2
   try have z227:=qaj hk2
   try have z228:=qaj hkJ
   repeat ((first|refine qaf (nthP gd) ?_|refine qaf (nthP g2) ?_|refine qai ‹_› ?_|refine qah ‹_› ?_|refine pkT ‹_› ?_|refine qaa ‹_› ?_|refine qao ‹_› ?_|refine qap ‹_› ?_|refine pkF ‹_› ?_|refine qac ‹_› ?_|refine qae hS (by kernel_rfl) ?_);conv => whnf)
   exact ⟨k + 1,⟨hk2,fun j z => by
    by_cases e:j = k
    ·rw [e]
     rw [ge] at c
     have c:¬ (gL J k).2.2 < ((dyN W J P k:Nat):Int) :=c
     omega
    ·exact hj j (by omega)⟩,by omega,Nat.le_refl _,(by refine ⟨rfl,rfl,rfl,rfl,rfl,rfl,4,rfl,?_,?_⟩ <;> repeat' (first|exact trivial|exact rfl|exact wkr rfl|exact wko rfl|exact Nat.zero_le _|exact ⟨_,rfl,WkV.int hk1⟩|exact qad lW|exact qad lJ|exact qad lP|exact qad lD|exact kle rfl|exact bdq|exact mxI rfl|exact mxS rfl|apply And.intro))⟩
 ·refine qac (qbh hk2) ?_
  conv => whnf
  refine .inl ?_
  conv => whnf
  exact ⟨_,4,rfl,WkV.refl _,Nat.le_refl _,fun h => absurd rfl h,by repeat' (first|exact trivial|exact .inl rfl|exact .inr rfl|apply And.intro),rfl,fun _ => rfl⟩
theorem qph {W J:List LkI} {P:List Int} {LS:List Pln} (hLS:LS ≠ []) (hb:LS.length ≤ 1000) (hW:areW W) (hJ:areJ J) (h:isPl W J P) (hn:inTm W J P):HP W J (nl P) (lsP LS) (lsP (LS ++ [(P,wgJ W J P P.length)])) :=by
 have lW :=qay W
 have lJ :=qay J
 have lP :=qat P
 have pD :=qeu hW hJ h
 have lD :=qat (dnL W J P)
 have hl :=h.1
 have hDl:(dnL W J P).length = J.length :=qcw W J P J.length
 have hJ6 :=hJ.1.2
 have lS :=qen LS
 rw [qgo hLS,qgo (show LS ++ [(P,wgJ W J P P.length)] ≠ [] by simp)]
 refine qdl (n :=5) (h :=appT [.chain LS.length 2 126] 4 (hpP W J (qbx 129 4 (some (plE LS,LS.length))))) hE rfl (show HEnd _ 5 from qc1 [_] 4 _ (qfk W J _)) rfl (kle rfl) (Nat.max_le.2 ⟨qad lP,kle rfl⟩) (Nat.zero_le _) (hbdP W J) (qad lS) (qad (qen _)) (fun _ h => nomatch h) (by repeat' (first|exact trivial|exact .inl rfl|exact .inr rfl|apply And.intro)) rfl rfl fun S q pc hS hq hC hE => ?_
 conv => whnf
 refine qac (decide_eq_false (show ¬ (P.length:Int) < (J.length:Int) by omega)) ?_
 conv => whnf
 refine qab hC (pD) ?_
 conv => whnf
 refine qaz hE hS (A :=Nat) [0,1,2,3,4,9,49,50] (fun k => [(51,nv k)]) (fun _ => []) (fun _ => []) (fun k => k ≤ (dnL W J P).length ∧ ∀ j,j < k → ((dyN W J P j:Nat):Int) ≤ (gL J j).2.2) (fun k => (dnL W J P).length - k) 0 (kle rfl) rfl (by refine ⟨rfl,rfl,rfl,rfl,rfl,rfl,5,rfl,?_,?_⟩ <;> repeat' (first|exact trivial|exact rfl|exact wkr rfl|exact wko rfl|exact Nat.zero_le _|exact qad lW|exact qad lJ|exact qad lP|exact qad lD|exact bdcP (kle rfl)|exact kle rfl|exact bdq|exact mxI rfl|exact mxS rfl|apply And.intro)) ⟨Nat.zero_le _,fun _ z => absurd z (Nat.not_lt_zero _)⟩ ?_
 rintro k ⟨hk,hj⟩ N hN
 obtain rfl:N = 5 :=hN
 conv => whnf
 by_cases hk2:k < (dnL W J P).length
 ·have hkJ:k < J.length :=by omega
  have gd :=qbb (l :=dnL W J P) (i :=k) hk2
  have ge:gi (dnL W J P) k = Int.ofNat (dyN W J P k) :=qev W J P hkJ
  have g2 :=qbu J k hkJ
  have hk1:IntKind.i64.wrap (Int.ofNat k + 1) = Int.ofNat (k + 1) :=qa5 (m :=k + 1) (by omega)
  by_cases c:gi (dnL W J P) k > (gL J k).2.2
  ·exfalso
   have :=hn k hkJ
   rw [ge] at c
   have c:(gL J k).2.2 < ((dyN W J P k:Nat):Int) :=c
   omega
  ·have c0:decide (gi (dnL W J P) k > (gL J k).2.2) = false :=decide_eq_false c
   try have z229:=qav hk2
   try have z230:=qaj hk2
   try have z231:=qaj hkJ
   repeat ((first|refine qaf (nthP gd) ?_|refine qaf (nthP g2) ?_|refine qai ‹_› ?_|refine qah ‹_› ?_|refine pkT ‹_› ?_|refine qaa ‹_› ?_|refine qao ‹_› ?_|refine qap ‹_› ?_|refine pkF ‹_› ?_|refine qac ‹_› ?_|refine qae hS (by kernel_rfl) ?_);conv => whnf)
   exact ⟨k + 1,⟨hk2,fun j z => by
    by_cases e:j = k
    ·rw [e]
     rw [ge] at c
     have c:¬ (gL J k).2.2 < ((dyN W J P k:Nat):Int) :=c
     omega
    ·exact hj j (by omega)⟩,by omega,Nat.le_refl _,(by refine ⟨rfl,rfl,rfl,rfl,rfl,rfl,5,rfl,?_,?_⟩ <;> repeat' (first|exact trivial|exact rfl|exact wkr rfl|exact wko rfl|exact Nat.zero_le _|exact ⟨_,rfl,WkV.int hk1⟩|exact qad lW|exact qad lJ|exact qad lP|exact qad lD|exact bdcP (kle rfl)|exact kle rfl|exact bdq|exact mxI rfl|exact mxS rfl|apply And.intro))⟩
 ·refine qac (qbh hk2) ?_
  conv => whnf
  refine .inl ?_
  conv => whnf
  refine qaa (decide_eq_true (show (LS.length + (0 + 1)) * 32 ≤ 140737488355328 by omega)) ?_
  conv => whnf
  refine qaa (decide_eq_true (show LS.length + (0 + 1) ≤ 9223372036854775807 by omega)) ?_
  conv => whnf
  refine qaa (qrm LS) ?_
  conv => whnf
  refine qaa (decide_eq_true rfl) ?_
  conv => whnf
  exact ⟨_,4,rfl,WkV.refl _,Nat.le_refl _,fun _ => rfl,by repeat' (first|exact trivial|exact .inl rfl|exact .inr rfl|apply And.intro),lcP LS _ _ 4 _,fun _ => lhP LS _ _⟩
end
end Go.Abs.Seat
