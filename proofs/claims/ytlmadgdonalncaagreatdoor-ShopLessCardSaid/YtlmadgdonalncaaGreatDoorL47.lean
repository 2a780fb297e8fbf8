/-
  The law ShopLess: workers and jobs as defined.
-/
import Derived.Test.YtlmadgdonalncaaGreatDoorL46
import Derived.Test.YtlmadgdonalncaaGreatDoorB54
namespace Go.Abs.Seat
noncomputable section
open Go Go.Abs Go.Proofs.Tryz
set_option maxRecDepth 100000
set_option maxHeartbeats 40000000
attribute [local irreducible] IntKind.wrap pEq
theorem mb_t {n c:Nat} {a b:Plan} (h:Nat.ble n c = true):(match Nat.ble n c with | true => a | false => b) = a :=by rw [h]
theorem mb_f {n c:Nat} {a b:Plan} (h:Nat.ble n c = false):(match Nat.ble n c with | true => a | false => b) = b :=by rw [h]
theorem qzi {t:Tr AV} {off n:Nat} {l:List AV} {k:List AV → Plan} (e:qfl t off n = some l):(match qfl t off n with | some l => k l | none => Plan.fail) = k l :=by rw [e]
theorem qke {t:Tr AV}:∀ (l:List AV) (off:Nat),(∀ j,j < l.length → t.get (off + j) = l[j]?) → qfl t off l.length = some l
 | [],_,_ => rfl
 |x :: l,off,h => by
  have h0:t.get off = some x :=h 0 (Nat.succ_pos _)
  have h1 :=qke l (off + 1) fun j hj => by
   have :=h (j + 1) (Nat.succ_lt_succ hj)
   rw [show off + 1 + j = off + (j + 1) by omega]
   exact this
  rw [List.length_cons,qfl,h0,h1]
theorem qn4 {t:Tr AV} {W:List LkI} {n:Nat} (v:Int) (hn:n < W.length) (hx:∀ j,j < W.length * 3 → t.get j = (lks W)[j]?):∀ j,j < W.length * 3 → (tset (pathOf (0 + n * 3)) t (iv v)).get j = (lks (W.set n (v,(gL W n).2.1,(gL W n).2.2)))[j]? :=fun j hj => by
 have hg:t.get (0 + n * 3) = some (iv (gL W n).1) :=by rw [Nat.zero_add];exact (hx _ (by omega)).trans (qiy W hn).1
 rw [qbq hg,qoz W v hn,hx j hj,Nat.zero_add]
theorem qn3 {t1:Tr AV} {X:List LkI} {m:Nat} {u0 u1 u2:AV} {a b c:Int} (hm:X.length = m) (hx:∀ j,j < m * 3 → t1.get j = (lks X)[j]?) (h0:t1.get (m * 3) = some u0) (h1:t1.get (m * 3 + 1) = some u1) (h2:t1.get (m * 3 + 2) = some u2) :
  ∀ j,j < m * 3 + 3 → (tset (pathOf (m * 3 + 2)) (tset (pathOf (m * 3 + 1)) (tset (pathOf (m * 3)) t1 (iv a)) (iv b)) (iv c)).get j = (lks (X ++ [(a,b,c)]))[j]? :=fun j hj => by
 have l3 :=lks_len X
 rw [hm] at l3
 have e1:(tset (pathOf (m * 3)) t1 (iv a)).get (m * 3 + 1) = some u1 :=by rw [qbq h0,if_neg (by omega)];exact h1
 have e2:(tset (pathOf (m * 3 + 1)) (tset (pathOf (m * 3)) t1 (iv a)) (iv b)).get (m * 3 + 2) = some u2 :=by rw [qbq e1,if_neg (by omega),qbq h0,if_neg (by omega)];exact h2
 rw [qbq e2,qbq e1,qbq h0,qh2]
 by_cases c3:j < m * 3
 ·rw [if_neg (by omega),if_neg (by omega),if_neg (by omega),hx j c3,List.getElem?_append_left (by omega)]
 ·rw [List.getElem?_append_right (by omega),l3]
  have:j = m * 3 ∨ j = m * 3 + 1 ∨ j = m * 3 + 2 :=by omega
  rcases this with rfl | rfl | rfl
  ·rw [if_neg (by omega),if_neg (by omega),if_pos rfl,Nat.sub_self];rfl
  ·rw [if_neg (by omega),if_pos rfl,show m * 3 + 1 - m * 3 = 1 by omega];rfl
  ·rw [if_pos rfl,show m * 3 + 2 - m * 3 = 2 by omega];rfl
theorem shopLess (known:Pure prog 13 [] (.bool true)) (long saw:Int) {x y z:AV} {T:List Int} {W J:List LkI} (hx:IL x T) (longer thinner:Int) (hy:LL y W) (hz:LL z J) (job worker more a b c:Int):Pure prog 9 [iv long,iv saw,x,iv longer,iv thinner,y,z,iv job,iv worker,iv more,.agg [iv a,iv b,iv c]] (.bool true) :=by
 rcases qx5 known long saw hx longer thinner hy hz job worker more a b c with h | ⟨s10,f,hW,hJ⟩
 ·exact h
 have pL :=qq9 hx (y :=.nils) (D :=[]) (.inl ⟨rfl,rfl⟩) s10 (Nat.zero_le _)
 have pF :=qlm hy hz (h :=.nils) (P :=[]) (.inl ⟨rfl,rfl⟩)
 have cf:(!decide (fewP W J [])) = false :=nt_t (decide_eq_true f)
 have pS :=qe3 hy hz f.1 f.2.1
 have r1 :=qht long saw
 have r2 :=qgv hx s10
 have cs:(!decide (areW W ∧ areJ J)) = false :=nt_t (decide_eq_true ⟨hW,hJ⟩)
 obtain rfl :=qz8 hy hW.1.1
 obtain rfl :=qz8 hz hJ.1.1
 have lx :=hx.no
 have lW :=qau W
 have lJ :=qau J
 rcases hx with ⟨rfl,hT⟩ | rfl
 ·skip
  refine qft (hEM muL) rfl (by repeat' first|exact trivial|assumption|exact qag _|exact fun _ h => nomatch h|apply And.intro) (by repeat' first|exact trivial|assumption|exact qag _|exact fun _ h => nomatch h|apply And.intro) fun S q pc hS hq hC hE => ?_
  conv => whnf
  refine qd0 hS (zs :=[_]) [0,1,2,3,4,5,6,7,8,9] [(21,.lptr [iv a,iv b,iv c] 0),(22,.bool false)] (fun i => by rw [qc8]) ?_ ?_
  ·conv => whnf
   refine qaz hE hS ?_
   conv => whnf
   refine ⟨rfl,rfl,rfl,rfl,rfl,rfl,?_⟩
   repeat' (first|exact trivial|exact ⟨_,rfl,FzV.ptr (n :=3) rfl rfl (get3 rfl rfl rfl) ⟨trivial,trivial,trivial,trivial⟩,⟨trivial,trivial,trivial,trivial⟩⟩ | (refine ⟨_,rfl,FzV.no ?_,?_⟩ <;> exact (by repeat' first|exact trivial|assumption|exact qag _|exact fun _ h => nomatch h|apply And.intro))|apply And.intro)
  conv => whnf
  refine qdv (E :=EM muL q pc) hS (qaz hE hS ?_)
  conv => whnf
  repeat ((first|refine qao cf ?_|refine qap cf ?_|refine pkF cf ?_|refine qac cf ?_|refine qai (gff cf) ?_|refine qah (gff cf) ?_|refine pkT (gff cf) ?_|refine qaa (gff cf) ?_|refine qab hC (pL) ?_|refine qab hC (pF) ?_|refine qad hS (by kernel_rfl) ?_);conv => whnf)
  refine qe0 (E :=EM muL q pc) hS (A :=Unit) [5,6,7,8,9,21,22] (fun _ => []) (fun _ => []) (fun _ => []) (fun _ => True) (Nat.le_refl _) ?_ ?_
  ·refine qaz hE hS ?_
   conv => whnf
   by_cases c1:swOk long saw
   rotate_left
   ·rw [decide_eq_false c1] at r1
    repeat ((first|refine qab hC (r1) ?_|refine qad hS (by kernel_rfl) ?_);conv => whnf)
    exact ⟨(),trivial,(by refine ⟨rfl,rfl,rfl,rfl,rfl,rfl,0,rfl,?_,?_⟩ <;> repeat' (first|exact trivial|exact rfl|exact ⟨_,rfl,WkV.refl _⟩|exact ⟨_,rfl,WkV.own _ _ _⟩|exact Nat.zero_le _|exact qae (qau _)|exact qae (qal _)|exact kle rfl|exact qae (by assumption)|exact qae (qag _)|exact qae (qal _)|exact qae (qa0 _)|exact mxI rfl|exact mxS rfl|apply And.intro))⟩
   rw [decide_eq_true c1] at r1
   by_cases c2:wlOk T
   rotate_left
   ·rw [decide_eq_false c2] at r2
    repeat ((first|refine qab hC (r1) ?_|refine qab hC (r2) ?_|refine qad hS (by kernel_rfl) ?_);conv => whnf)
    exact ⟨(),trivial,(by refine ⟨rfl,rfl,rfl,rfl,rfl,rfl,0,rfl,?_,?_⟩ <;> repeat' (first|exact trivial|exact rfl|exact ⟨_,rfl,WkV.refl _⟩|exact ⟨_,rfl,WkV.own _ _ _⟩|exact Nat.zero_le _|exact qae (qau _)|exact qae (qal _)|exact kle rfl|exact qae (by assumption)|exact qae (qag _)|exact qae (qal _)|exact qae (qa0 _)|exact mxI rfl|exact mxS rfl|apply And.intro))⟩
   rw [decide_eq_true c2] at r2
   by_cases c3:0 ≤ longer
   rotate_left
   ·have f3:decide (longer ≥ 0) = false :=decide_eq_false c3
    repeat ((first|refine qao f3 ?_|refine qap f3 ?_|refine pkF f3 ?_|refine qac f3 ?_|refine qao (qay f3) ?_|refine qap (qay f3) ?_|refine pkF (qay f3) ?_|refine qac (qay f3) ?_|refine qab hC (r1) ?_|refine qab hC (r2) ?_|refine qad hS (by kernel_rfl) ?_);conv => whnf)
    exact ⟨(),trivial,(by refine ⟨rfl,rfl,rfl,rfl,rfl,rfl,0,rfl,?_,?_⟩ <;> repeat' (first|exact trivial|exact rfl|exact ⟨_,rfl,WkV.refl _⟩|exact ⟨_,rfl,WkV.own _ _ _⟩|exact Nat.zero_le _|exact qae (qau _)|exact qae (qal _)|exact kle rfl|exact qae (by assumption)|exact qae (qag _)|exact qae (qal _)|exact qae (qa0 _)|exact mxI rfl|exact mxS rfl|apply And.intro))⟩
   have t3:decide (longer ≥ 0) = true :=decide_eq_true c3
   have w4:IntKind.i64.wrap (500 - long) = 500 - long :=qdp (by have :=c1.1;omega) (by have :=c1.1;omega)
   by_cases c4:longer ≤ 500 - long
   rotate_left
   ·have f4:decide (longer ≤ IntKind.i64.wrap (500 - long)) = false :=decide_eq_false (by rw [w4];exact c4)
    repeat ((first|refine qai t3 ?_|refine qah t3 ?_|refine pkT t3 ?_|refine qaa t3 ?_|refine qai (qaj t3) ?_|refine qah (qaj t3) ?_|refine pkT (qaj t3) ?_|refine qaa (qaj t3) ?_|refine qao f4 ?_|refine qap f4 ?_|refine pkF f4 ?_|refine qac f4 ?_|refine qao (qay f4) ?_|refine qap (qay f4) ?_|refine pkF (qay f4) ?_|refine qac (qay f4) ?_|refine qab hC (r1) ?_|refine qab hC (r2) ?_|refine qad hS (by kernel_rfl) ?_);conv => whnf)
    exact ⟨(),trivial,(by refine ⟨rfl,rfl,rfl,rfl,rfl,rfl,0,rfl,?_,?_⟩ <;> repeat' (first|exact trivial|exact rfl|exact ⟨_,rfl,WkV.refl _⟩|exact ⟨_,rfl,WkV.own _ _ _⟩|exact Nat.zero_le _|exact qae (qau _)|exact qae (qal _)|exact kle rfl|exact qae (by assumption)|exact qae (qag _)|exact qae (qal _)|exact qae (qa0 _)|exact mxI rfl|exact mxS rfl|apply And.intro))⟩
   have t4:decide (longer ≤ IntKind.i64.wrap (500 - long)) = true :=decide_eq_true (by rw [w4];exact c4)
   by_cases c5:0 ≤ thinner
   rotate_left
   ·have f5:decide (thinner ≥ 0) = false :=decide_eq_false c5
    repeat ((first|refine qai t3 ?_|refine qah t3 ?_|refine pkT t3 ?_|refine qaa t3 ?_|refine qai (qaj t3) ?_|refine qah (qaj t3) ?_|refine pkT (qaj t3) ?_|refine qaa (qaj t3) ?_|refine qai t4 ?_|refine qah t4 ?_|refine pkT t4 ?_|refine qaa t4 ?_|refine qai (qaj t4) ?_|refine qah (qaj t4) ?_|refine pkT (qaj t4) ?_|refine qaa (qaj t4) ?_|refine qao f5 ?_|refine qap f5 ?_|refine pkF f5 ?_|refine qac f5 ?_|refine qao (qay f5) ?_|refine qap (qay f5) ?_|refine pkF (qay f5) ?_|refine qac (qay f5) ?_|refine qab hC (r1) ?_|refine qab hC (r2) ?_|refine qad hS (by kernel_rfl) ?_);conv => whnf)
    exact ⟨(),trivial,(by refine ⟨rfl,rfl,rfl,rfl,rfl,rfl,0,rfl,?_,?_⟩ <;> repeat' (first|exact trivial|exact rfl|exact ⟨_,rfl,WkV.refl _⟩|exact ⟨_,rfl,WkV.own _ _ _⟩|exact Nat.zero_le _|exact qae (qau _)|exact qae (qal _)|exact kle rfl|exact qae (by assumption)|exact qae (qag _)|exact qae (qal _)|exact qae (qa0 _)|exact mxI rfl|exact mxS rfl|apply And.intro))⟩
   have t5:decide (thinner ≥ 0) = true :=decide_eq_true c5
   by_cases c6:thinner ≤ saw
   rotate_left
   ·have f6:decide (thinner ≤ saw) = false :=decide_eq_false c6
    repeat ((first|refine qai t3 ?_|refine qah t3 ?_|refine pkT t3 ?_|refine qaa t3 ?_|refine qai (qaj t3) ?_|refine qah (qaj t3) ?_|refine pkT (qaj t3) ?_|refine qaa (qaj t3) ?_|refine qai t4 ?_|refine qah t4 ?_|refine pkT t4 ?_|refine qaa t4 ?_|refine qai (qaj t4) ?_|refine qah (qaj t4) ?_|refine pkT (qaj t4) ?_|refine qaa (qaj t4) ?_|refine qai t5 ?_|refine qah t5 ?_|refine pkT t5 ?_|refine qaa t5 ?_|refine qai (qaj t5) ?_|refine qah (qaj t5) ?_|refine pkT (qaj t5) ?_|refine qaa (qaj t5) ?_|refine qao f6 ?_|refine qap f6 ?_|refine pkF f6 ?_|refine qac f6 ?_|refine qao (qay f6) ?_|refine qap (qay f6) ?_|refine pkF (qay f6) ?_|refine qac (qay f6) ?_|refine qab hC (r1) ?_|refine qab hC (r2) ?_|refine qad hS (by kernel_rfl) ?_);conv => whnf)
    exact ⟨(),trivial,(by refine ⟨rfl,rfl,rfl,rfl,rfl,rfl,0,rfl,?_,?_⟩ <;> repeat' (first|exact trivial|exact rfl|exact ⟨_,rfl,WkV.refl _⟩|exact ⟨_,rfl,WkV.own _ _ _⟩|exact Nat.zero_le _|exact qae (qau _)|exact qae (qal _)|exact kle rfl|exact qae (by assumption)|exact qae (qag _)|exact qae (qal _)|exact qae (qa0 _)|exact mxI rfl|exact mxS rfl|apply And.intro))⟩
   have t6:decide (thinner ≤ saw) = true :=decide_eq_true c6
   exact absurd c2.2.1 (by rw [hT];decide)
  intro _ _ N hN
  obtain rfl:N = 0 :=hN
  conv => whnf
  refine qe0 (E :=EM muL q pc) hS (A :=Unit) [5,6,7,8,9,21,22] (fun _ => []) (fun _ => []) (fun _ => []) (fun _ => (0 ≤ job ∧ job < (J.length:Int)) ∧ (0 ≤ worker ∧ worker < (W.length:Int)) ∧ 0 ≤ more ∧ more ≤ 60) (Nat.le_refl _) ?_ ?_
  ·refine qaz hE hS ?_
   conv => whnf
   by_cases c1:job < 0
   ·have t1:decide (job < 0) = true :=decide_eq_true c1
    repeat ((first|refine qao cs ?_|refine qap cs ?_|refine pkF cs ?_|refine qac cs ?_|refine qai (gff cs) ?_|refine qah (gff cs) ?_|refine pkT (gff cs) ?_|refine qaa (gff cs) ?_|refine qai t1 ?_|refine qah t1 ?_|refine pkT t1 ?_|refine qaa t1 ?_|refine qao (gft t1) ?_|refine qap (gft t1) ?_|refine pkF (gft t1) ?_|refine qac (gft t1) ?_|refine qab hC (pS) ?_|refine qab hC (known) ?_|refine qad hS (by kernel_rfl) ?_);conv => whnf)
    exact ⟨_,rfl,Wk.refl _⟩
   have f1:decide (job < 0) = false :=decide_eq_false c1
   by_cases c2:job < (J.length:Int)
   rotate_left
   ·have t2:decide (job ≥ (J.length:Int)) = true :=decide_eq_true (by omega)
    repeat ((first|refine qao cs ?_|refine qap cs ?_|refine pkF cs ?_|refine qac cs ?_|refine qai (gff cs) ?_|refine qah (gff cs) ?_|refine pkT (gff cs) ?_|refine qaa (gff cs) ?_|refine qao f1 ?_|refine qap f1 ?_|refine pkF f1 ?_|refine qac f1 ?_|refine qai (gff f1) ?_|refine qah (gff f1) ?_|refine pkT (gff f1) ?_|refine qaa (gff f1) ?_|refine qai t2 ?_|refine qah t2 ?_|refine pkT t2 ?_|refine qaa t2 ?_|refine qao (gft t2) ?_|refine qap (gft t2) ?_|refine pkF (gft t2) ?_|refine qac (gft t2) ?_|refine qab hC (pS) ?_|refine qab hC (known) ?_|refine qad hS (by kernel_rfl) ?_);conv => whnf)
    exact ⟨_,rfl,Wk.refl _⟩
   have f2:decide (job ≥ (J.length:Int)) = false :=decide_eq_false (by omega)
   by_cases c3:worker < 0
   ·have t3:decide (worker < 0) = true :=decide_eq_true c3
    repeat ((first|refine qao cs ?_|refine qap cs ?_|refine pkF cs ?_|refine qac cs ?_|refine qai (gff cs) ?_|refine qah (gff cs) ?_|refine pkT (gff cs) ?_|refine qaa (gff cs) ?_|refine qao f1 ?_|refine qap f1 ?_|refine pkF f1 ?_|refine qac f1 ?_|refine qai (gff f1) ?_|refine qah (gff f1) ?_|refine pkT (gff f1) ?_|refine qaa (gff f1) ?_|refine qao f2 ?_|refine qap f2 ?_|refine pkF f2 ?_|refine qac f2 ?_|refine qai (gff f2) ?_|refine qah (gff f2) ?_|refine pkT (gff f2) ?_|refine qaa (gff f2) ?_|refine qai t3 ?_|refine qah t3 ?_|refine pkT t3 ?_|refine qaa t3 ?_|refine qao (gft t3) ?_|refine qap (gft t3) ?_|refine pkF (gft t3) ?_|refine qac (gft t3) ?_|refine qab hC (pS) ?_|refine qab hC (known) ?_|refine qad hS (by kernel_rfl) ?_);conv => whnf)
    exact ⟨_,rfl,Wk.refl _⟩
   have f3:decide (worker < 0) = false :=decide_eq_false c3
   by_cases c4:worker < (W.length:Int)
   rotate_left
   ·have t4:decide (worker ≥ (W.length:Int)) = true :=decide_eq_true (by omega)
    repeat ((first|refine qao cs ?_|refine qap cs ?_|refine pkF cs ?_|refine qac cs ?_|refine qai (gff cs) ?_|refine qah (gff cs) ?_|refine pkT (gff cs) ?_|refine qaa (gff cs) ?_|refine qao f1 ?_|refine qap f1 ?_|refine pkF f1 ?_|refine qac f1 ?_|refine qai (gff f1) ?_|refine qah (gff f1) ?_|refine pkT (gff f1) ?_|refine qaa (gff f1) ?_|refine qao f2 ?_|refine qap f2 ?_|refine pkF f2 ?_|refine qac f2 ?_|refine qai (gff f2) ?_|refine qah (gff f2) ?_|refine pkT (gff f2) ?_|refine qaa (gff f2) ?_|refine qao f3 ?_|refine qap f3 ?_|refine pkF f3 ?_|refine qac f3 ?_|refine qai (gff f3) ?_|refine qah (gff f3) ?_|refine pkT (gff f3) ?_|refine qaa (gff f3) ?_|refine qai t4 ?_|refine qah t4 ?_|refine pkT t4 ?_|refine qaa t4 ?_|refine qao (gft t4) ?_|refine qap (gft t4) ?_|refine pkF (gft t4) ?_|refine qac (gft t4) ?_|refine qab hC (pS) ?_|refine qab hC (known) ?_|refine qad hS (by kernel_rfl) ?_);conv => whnf)
    exact ⟨_,rfl,Wk.refl _⟩
   have f4:decide (worker ≥ (W.length:Int)) = false :=decide_eq_false (by omega)
   by_cases c5:more < 0
   ·have t5:decide (more < 0) = true :=decide_eq_true c5
    repeat ((first|refine qao cs ?_|refine qap cs ?_|refine pkF cs ?_|refine qac cs ?_|refine qai (gff cs) ?_|refine qah (gff cs) ?_|refine pkT (gff cs) ?_|refine qaa (gff cs) ?_|refine qao f1 ?_|refine qap f1 ?_|refine pkF f1 ?_|refine qac f1 ?_|refine qai (gff f1) ?_|refine qah (gff f1) ?_|refine pkT (gff f1) ?_|refine qaa (gff f1) ?_|refine qao f2 ?_|refine qap f2 ?_|refine pkF f2 ?_|refine qac f2 ?_|refine qai (gff f2) ?_|refine qah (gff f2) ?_|refine pkT (gff f2) ?_|refine qaa (gff f2) ?_|refine qao f3 ?_|refine qap f3 ?_|refine pkF f3 ?_|refine qac f3 ?_|refine qai (gff f3) ?_|refine qah (gff f3) ?_|refine pkT (gff f3) ?_|refine qaa (gff f3) ?_|refine qao f4 ?_|refine qap f4 ?_|refine pkF f4 ?_|refine qac f4 ?_|refine qai (gff f4) ?_|refine qah (gff f4) ?_|refine pkT (gff f4) ?_|refine qaa (gff f4) ?_|refine qai t5 ?_|refine qah t5 ?_|refine pkT t5 ?_|refine qaa t5 ?_|refine qao (gft t5) ?_|refine qap (gft t5) ?_|refine pkF (gft t5) ?_|refine qac (gft t5) ?_|refine qab hC (pS) ?_|refine qab hC (known) ?_|refine qad hS (by kernel_rfl) ?_);conv => whnf)
    exact ⟨_,rfl,Wk.refl _⟩
   have f5:decide (more < 0) = false :=decide_eq_false c5
   by_cases c6:more > 60
   ·have t6:decide (more > 60) = true :=decide_eq_true c6
    repeat ((first|refine qao cs ?_|refine qap cs ?_|refine pkF cs ?_|refine qac cs ?_|refine qai (gff cs) ?_|refine qah (gff cs) ?_|refine pkT (gff cs) ?_|refine qaa (gff cs) ?_|refine qao f1 ?_|refine qap f1 ?_|refine pkF f1 ?_|refine qac f1 ?_|refine qai (gff f1) ?_|refine qah (gff f1) ?_|refine pkT (gff f1) ?_|refine qaa (gff f1) ?_|refine qao f2 ?_|refine qap f2 ?_|refine pkF f2 ?_|refine qac f2 ?_|refine qai (gff f2) ?_|refine qah (gff f2) ?_|refine pkT (gff f2) ?_|refine qaa (gff f2) ?_|refine qao f3 ?_|refine qap f3 ?_|refine pkF f3 ?_|refine qac f3 ?_|refine qai (gff f3) ?_|refine qah (gff f3) ?_|refine pkT (gff f3) ?_|refine qaa (gff f3) ?_|refine qao f4 ?_|refine qap f4 ?_|refine pkF f4 ?_|refine qac f4 ?_|refine qai (gff f4) ?_|refine qah (gff f4) ?_|refine pkT (gff f4) ?_|refine qaa (gff f4) ?_|refine qao f5 ?_|refine qap f5 ?_|refine pkF f5 ?_|refine qac f5 ?_|refine qai (gff f5) ?_|refine qah (gff f5) ?_|refine pkT (gff f5) ?_|refine qaa (gff f5) ?_|refine qai t6 ?_|refine qah t6 ?_|refine pkT t6 ?_|refine qaa t6 ?_|refine qao (gft t6) ?_|refine qap (gft t6) ?_|refine pkF (gft t6) ?_|refine qac (gft t6) ?_|refine qab hC (pS) ?_|refine qab hC (known) ?_|refine qad hS (by kernel_rfl) ?_);conv => whnf)
    exact ⟨_,rfl,Wk.refl _⟩
   have f6:decide (more > 60) = false :=decide_eq_false c6
   repeat ((first|refine qao cs ?_|refine qap cs ?_|refine pkF cs ?_|refine qac cs ?_|refine qai (gff cs) ?_|refine qah (gff cs) ?_|refine pkT (gff cs) ?_|refine qaa (gff cs) ?_|refine qao f1 ?_|refine qap f1 ?_|refine pkF f1 ?_|refine qac f1 ?_|refine qai (gff f1) ?_|refine qah (gff f1) ?_|refine pkT (gff f1) ?_|refine qaa (gff f1) ?_|refine qao f2 ?_|refine qap f2 ?_|refine pkF f2 ?_|refine qac f2 ?_|refine qai (gff f2) ?_|refine qah (gff f2) ?_|refine pkT (gff f2) ?_|refine qaa (gff f2) ?_|refine qao f3 ?_|refine qap f3 ?_|refine pkF f3 ?_|refine qac f3 ?_|refine qai (gff f3) ?_|refine qah (gff f3) ?_|refine pkT (gff f3) ?_|refine qaa (gff f3) ?_|refine qao f4 ?_|refine qap f4 ?_|refine pkF f4 ?_|refine qac f4 ?_|refine qai (gff f4) ?_|refine qah (gff f4) ?_|refine pkT (gff f4) ?_|refine qaa (gff f4) ?_|refine qao f5 ?_|refine qap f5 ?_|refine pkF f5 ?_|refine qac f5 ?_|refine qai (gff f5) ?_|refine qah (gff f5) ?_|refine pkT (gff f5) ?_|refine qaa (gff f5) ?_|refine qao f6 ?_|refine qap f6 ?_|refine pkF f6 ?_|refine qac f6 ?_|refine qai (gff f6) ?_|refine qah (gff f6) ?_|refine pkT (gff f6) ?_|refine qaa (gff f6) ?_|refine qab hC (pS) ?_|refine qab hC (known) ?_|refine qad hS (by kernel_rfl) ?_);conv => whnf)
   exact ⟨(),⟨⟨by omega,c2⟩,⟨by omega,c4⟩,by omega,by omega⟩,(by refine ⟨rfl,rfl,rfl,rfl,rfl,rfl,0,rfl,?_,?_⟩ <;> repeat' (first|exact trivial|exact rfl|exact ⟨_,rfl,WkV.refl _⟩|exact ⟨_,rfl,WkV.own _ _ _⟩|exact Nat.zero_le _|exact qae (qau _)|exact qae (qal _)|exact kle rfl|exact qae (by assumption)|exact qae (qag _)|exact qae (qal _)|exact qae (qa0 _)|exact mxI rfl|exact mxS rfl|apply And.intro))⟩
  intro _ hC N hN
  obtain rfl:N = 0 :=hN
  obtain ⟨⟨j1,j2⟩,⟨w1,w2⟩,m1,m2⟩ :=hC
  have hw3 :=hW.1
  have hj6 :=hJ.1
  have l1 :=lks_len W
  have l2 :=lks_len J
  have hwn:worker.toNat < W.length :=by omega
  have hjn:job.toNat < J.length :=by omega
  have iw:inR worker W.length = true :=by
   rw [show worker = Int.ofNat worker.toNat from (Int.toNat_of_nonneg w1).symm]
   exact qav hwn
  have ij:inR job J.length = true :=by
   rw [show job = Int.ofNat job.toNat from (Int.toNat_of_nonneg j1).symm]
   exact qav hjn
  obtain ⟨m,hm⟩ : ∃ m,W.length = m + 1 :=⟨W.length - 1,by omega⟩
  obtain ⟨k,hk⟩ : ∃ k,J.length = k + 1 :=⟨J.length - 1,by omega⟩
  conv => whnf
  refine qk6 hS (zs :=[_,_]) (lks W) W.length 3 55 (fun C => [(5,lkA W),(6,lkA J),(7,iv job),(8,iv worker),(9,iv more),(21,.lptr [iv a,iv b,iv c] 0),(22,.bool false),(29,.slc 0 0 W.length C)]) [5,6,7,8,9,22] [(29,lkA (mrW W worker.toNat (minI 3 (IntKind.i64.wrap ((gL W worker.toNat).1 + more))) (a,b,c)))] (fun i => by show hv .nil i = _;rw [qc8]) lW ?_ ?_ ?_
  ·refine qaz hE hS ?_
   conv => whnf
   refine qaf (qd9 (e :=55) (ys :=lks W) (m :=W.length) (own :=.no) (l :=lks W) (by kernel_rfl) rfl (qfq _)) ?_
   rw [hm]
   conv => whnf
   refine qaa (qc4 W) ?_
   conv => whnf
   refine qaa (decide_eq_true (show (m + 1) * 24 ≤ 140737488355328 by omega)) ?_
   conv => whnf
   refine qaa (decide_eq_true (show m + 1 ≤ 9223372036854775807 by omega)) ?_
   conv => whnf
   refine ⟨0,rfl,rfl,rfl,rfl,rfl,rfl,rfl,fun C => ?_⟩
   repeat' (first|exact trivial|exact ⟨_,rfl,.inr ⟨rfl,rfl⟩⟩ | (refine ⟨_,rfl,.inl ⟨WkV.refl _,?_⟩⟩;exact (by repeat' first|exact trivial|assumption|exact qag _|exact fun _ h => nomatch h|apply And.intro))|apply And.intro)
  ·intro C t hC ht
   have hx0:∀ j,j < W.length * 3 → t.get j = (lks W)[j]? :=fun j hj => by rw [ht,List.getElem?_append_left (by rw [l1];exact hj)]
   have g0 :=qbf W worker.toNat hwn
   have gt:t.get (worker.toNat * 3) = some (iv (gL W worker.toNat).1) :=(hx0 _ (by omega)).trans (qiy W hwn).1
   have gt':t.get (0 + worker.toNat * 3) = some (iv (gL W worker.toNat).1) :=by rw [Nat.zero_add];exact gt
   have b1:Nat.ble (0 + worker.toNat * 3 + 1) (C * 3) = true :=Nat.ble_eq_true_of_le (by omega)
   conv => whnf
   refine qaz hE hS ?_
   conv => whnf
   repeat ((first|refine qaf (nthP g0) ?_|refine qai iw ?_|refine qah iw ?_|refine pkT iw ?_|refine qaa iw ?_|refine qai b1 ?_|refine qah b1 ?_|refine pkT b1 ?_|refine qaa b1 ?_|refine qad hS (by kernel_rfl) ?_);conv => whnf)
   refine qdg gt' ?_
   conv => whnf
   refine qaz hE hS ?_
   conv => whnf
   have b2:Nat.ble W.length C = true :=Nat.ble_eq_true_of_le hC
   have hx1 :=qn4 (minI 3 (IntKind.i64.wrap ((gL W worker.toNat).1 + more))) hwn hx0
   have e3:(lks (W.set worker.toNat (minI 3 (IntKind.i64.wrap ((gL W worker.toNat).1 + more)),(gL W worker.toNat).2.1,(gL W worker.toNat).2.2))).length = W.length * 3 :=by rw [lks_len,List.length_set]
   by_cases q:W.length < 3
   ·have q1:decide ((W.length:Int) < 3) = true :=decide_eq_true (by omega)
    have eV:mrW W worker.toNat (minI 3 (IntKind.i64.wrap ((gL W worker.toNat).1 + more))) (a,b,c) = W.set worker.toNat (minI 3 (IntKind.i64.wrap ((gL W worker.toNat).1 + more)),(gL W worker.toNat).2.1,(gL W worker.toNat).2.2) ++ [(a,b,c)] :=if_pos q
    have vlen:(mrW W worker.toNat (minI 3 (IntKind.i64.wrap ((gL W worker.toNat).1 + more))) (a,b,c)).length = W.length + (0 + 1) :=by rw [eV,List.length_append,List.length_set];rfl
    have lV3:(lks (mrW W worker.toNat (minI 3 (IntKind.i64.wrap ((gL W worker.toNat).1 + more))) (a,b,c))).length = W.length * 3 + 3 :=by rw [lks_len,vlen];omega
    by_cases hCC:W.length + 1 ≤ C
    ·have b3:Nat.ble (W.length + (0 + 1)) C = true :=Nat.ble_eq_true_of_le hCC
     have b4:Nat.ble (W.length * 3 + 3) (C * 3) = true :=Nat.ble_eq_true_of_le (by omega)
     have u:∀ i,i < 3 → (tset (pathOf (0 + worker.toNat * 3)) t (iv (minI 3 (IntKind.i64.wrap ((gL W worker.toNat).1 + more))))).get (W.length * 3 + i) = some .unk :=fun i hi => by
      rw [qbq gt',if_neg (by omega),ht,List.getElem?_append_right (by omega),l1,List.getElem?_replicate,if_pos (by omega)]
     have u0 :=u 0 (by decide)
     rw [Nat.add_zero] at u0
     have u1 :=u 1 (by decide)
     have u2 :=u 2 (by decide)
     have u1':(tset (pathOf (W.length * 3)) (tset (pathOf (0 + worker.toNat * 3)) t (iv (minI 3 (IntKind.i64.wrap ((gL W worker.toNat).1 + more))))) (iv a)).get (W.length * 3 + 1) = some .unk :=by rw [qbq u0,if_neg (by omega)];exact u1
     have u2':(tset (pathOf (W.length * 3 + 1)) (tset (pathOf (W.length * 3)) (tset (pathOf (0 + worker.toNat * 3)) t (iv (minI 3 (IntKind.i64.wrap ((gL W worker.toNat).1 + more))))) (iv a)) (iv b)).get (W.length * 3 + 2) = some .unk :=by rw [qbq u1',if_neg (by omega),qbq u0,if_neg (by omega)];exact u2
     have h4 :=qn3 (a :=a) (b :=b) (c :=c) List.length_set hx1 u0 u1 u2
     have hz:∀ j,j < (lks (mrW W worker.toNat (minI 3 (IntKind.i64.wrap ((gL W worker.toNat).1 + more))) (a,b,c))).length → _ = (lks (mrW W worker.toNat (minI 3 (IntKind.i64.wrap ((gL W worker.toNat).1 + more))) (a,b,c)))[j]? :=fun j hj => (h4 j (by rw [lV3] at hj;exact hj)).trans (by rw [eV])
     repeat ((first|refine qaf (mb_t b3) ?_|refine qai q1 ?_|refine qah q1 ?_|refine pkT q1 ?_|refine qaa q1 ?_|refine qai b2 ?_|refine qah b2 ?_|refine pkT b2 ?_|refine qaa b2 ?_|refine qai b4 ?_|refine qah b4 ?_|refine pkT b4 ?_|refine qaa b4 ?_|refine qad hS (by kernel_rfl) ?_);conv => whnf)
     refine qdg u0 ?_
     conv => whnf
     refine qdg u1' ?_
     conv => whnf
     refine qdg u2' ?_
     conv => whnf
     refine ⟨rfl,rfl,rfl,rfl,rfl,rfl,?_⟩
     repeat' (first|exact trivial|exact ⟨_,rfl,FzV.slcL rfl (by rw [lV3];omega) hz (qau _) vlen.symm,lkA_no _⟩ | (refine ⟨_,rfl,FzV.no ?_,?_⟩ <;> exact (by repeat' first|exact trivial|assumption|exact qag _|exact fun _ h => nomatch h|apply And.intro))|apply And.intro)
    ·have b3:Nat.ble (W.length + (0 + 1)) C = false :=Bool.eq_false_iff.2 fun z => hCC (Nat.le_of_ble_eq_true z)
     have d1:decide (W.length * 3 ≤ C * 3) = true :=decide_eq_true (by omega)
     have d2:decide ((W.length + (0 + 1)) * 24 ≤ 140737488355328) = true :=decide_eq_true (by omega)
     have d3:decide (W.length + (0 + 1) ≤ 9223372036854775807) = true :=decide_eq_true (by omega)
     have hld :=qke (t :=tset (pathOf (0 + worker.toNat * 3)) t (iv (minI 3 (IntKind.i64.wrap ((gL W worker.toNat).1 + more))))) (lks (W.set worker.toNat (minI 3 (IntKind.i64.wrap ((gL W worker.toNat).1 + more)),(gL W worker.toNat).2.1,(gL W worker.toNat).2.2))) 0 fun j hj => (congrArg _ (Nat.zero_add j)).trans (hx1 j (by rw [← e3];exact hj))
     rw [e3] at hld
     have e4:lks (W.set worker.toNat (minI 3 (IntKind.i64.wrap ((gL W worker.toNat).1 + more)),(gL W worker.toNat).2.1,(gL W worker.toNat).2.2)) ++ [iv a,iv b,iv c] = lks (mrW W worker.toNat (minI 3 (IntKind.i64.wrap ((gL W worker.toNat).1 + more))) (a,b,c)) :=by rw [eV,qh2];rfl
     repeat ((first|refine qaf (mb_f b3) ?_|refine qaf (qzi hld) ?_|refine qai q1 ?_|refine qah q1 ?_|refine pkT q1 ?_|refine qaa q1 ?_|refine qai b2 ?_|refine qah b2 ?_|refine pkT b2 ?_|refine qaa b2 ?_|refine qai d1 ?_|refine qah d1 ?_|refine pkT d1 ?_|refine qaa d1 ?_|refine qai d2 ?_|refine qah d2 ?_|refine pkT d2 ?_|refine qaa d2 ?_|refine qai d3 ?_|refine qah d3 ?_|refine pkT d3 ?_|refine qaa d3 ?_|refine qad hS (by kernel_rfl) ?_);conv => whnf)
     refine qhf ((congrArg List.length e4).trans lV3) ?_
     intro t4 ht4
     have hz:∀ j,j < (lks (mrW W worker.toNat (minI 3 (IntKind.i64.wrap ((gL W worker.toNat).1 + more))) (a,b,c))).length → t4.get j = (lks (mrW W worker.toNat (minI 3 (IntKind.i64.wrap ((gL W worker.toNat).1 + more))) (a,b,c)))[j]? :=fun j _ => (ht4 j).trans (by rw [← e4])
     conv => whnf
     refine ⟨rfl,rfl,rfl,rfl,rfl,rfl,?_⟩
     repeat' (first|exact trivial|exact ⟨_,rfl,FzV.slcL rfl (Nat.le_of_eq lV3) hz (qau _) vlen.symm,lkA_no _⟩ | (refine ⟨_,rfl,FzV.no ?_,?_⟩ <;> exact (by repeat' first|exact trivial|assumption|exact qag _|exact fun _ h => nomatch h|apply And.intro))|apply And.intro)
   ·have q1:decide ((W.length:Int) < 3) = false :=decide_eq_false (by omega)
    have eV:mrW W worker.toNat (minI 3 (IntKind.i64.wrap ((gL W worker.toNat).1 + more))) (a,b,c) = W.set worker.toNat (minI 3 (IntKind.i64.wrap ((gL W worker.toNat).1 + more)),(gL W worker.toNat).2.1,(gL W worker.toNat).2.2) :=if_neg q
    have hz:∀ j,j < (lks (mrW W worker.toNat (minI 3 (IntKind.i64.wrap ((gL W worker.toNat).1 + more))) (a,b,c))).length → (tset (pathOf (0 + worker.toNat * 3)) t (iv (minI 3 (IntKind.i64.wrap ((gL W worker.toNat).1 + more))))).get j = (lks (mrW W worker.toNat (minI 3 (IntKind.i64.wrap ((gL W worker.toNat).1 + more))) (a,b,c)))[j]? :=fun j hj => (hx1 j (by rw [eV,e3] at hj;exact hj)).trans (by rw [eV])
    repeat ((first|refine qao q1 ?_|refine qap q1 ?_|refine pkF q1 ?_|refine qac q1 ?_|refine qad hS (by kernel_rfl) ?_);conv => whnf)
    refine ⟨rfl,rfl,rfl,rfl,rfl,rfl,?_⟩
    repeat' (first|exact trivial|exact ⟨_,rfl,FzV.slcL rfl (by rw [eV,e3];omega) hz (qau _) (by rw [eV,List.length_set]),lkA_no _⟩ | (refine ⟨_,rfl,FzV.no ?_,?_⟩ <;> exact (by repeat' first|exact trivial|assumption|exact qag _|exact fun _ h => nomatch h|apply And.intro))|apply And.intro)
  conv => whnf
  refine qd0 hS (zs :=[_,_]) [5,6,22,29] [(30,lkA (ltJ J job.toNat (minI 60 (IntKind.i64.wrap ((gL J job.toNat).2.2 + more)))))] (fun i => by show hv .nil i = _;rw [qc8]) ?_ ?_
  ·conv => whnf
   refine qaz hE hS ?_
   conv => whnf
   refine qaf (qd9 (e :=53) (ys :=lks J) (m :=J.length) (own :=.no) (l :=lks J) (by kernel_rfl) rfl (qfq _)) ?_
   rw [hk]
   conv => whnf
   refine qaa (qc4 J) ?_
   conv => whnf
   refine qaa (decide_eq_true (show (k + 1) * 24 ≤ 140737488355328 by omega)) ?_
   conv => whnf
   refine qaa (decide_eq_true (show k + 1 ≤ 9223372036854775807 by omega)) ?_
   conv => whnf
   refine qhf (l2.trans (congrArg (· * 3) hk)) ?_
   intro t ht
   conv => whnf
   refine qaz hE hS ?_
   conv => whnf
   have g2 :=qck J job.toNat (by omega)
   have gt:t.get (0 + job.toNat * 3 + 2) = some (iv (gL J job.toNat).2.2) :=by rw [Nat.zero_add,ht];exact (qiy J (by omega)).2.2
   have b1:Nat.ble (0 + job.toNat * 3 + 2 + 1) ((k + 1) * 3) = true :=Nat.ble_eq_true_of_le (by omega)
   have ij2:inR job (k + 1) = true :=by rw [← hk];exact ij
   repeat ((first|refine qaf (nthP g2) ?_|refine qai ij ?_|refine qah ij ?_|refine pkT ij ?_|refine qaa ij ?_|refine qai ij2 ?_|refine qah ij2 ?_|refine pkT ij2 ?_|refine qaa ij2 ?_|refine qai b1 ?_|refine qah b1 ?_|refine pkT b1 ?_|refine qaa b1 ?_|refine qad hS (by kernel_rfl) ?_);conv => whnf)
   refine qdg gt ?_
   conv => whnf
   have e5:(lks (ltJ J job.toNat (minI 60 (IntKind.i64.wrap ((gL J job.toNat).2.2 + more))))).length = (k + 1) * 3 :=by unfold ltJ;rw [lks_len,List.length_set,hk]
   have hz:∀ j,j < (lks (ltJ J job.toNat (minI 60 (IntKind.i64.wrap ((gL J job.toNat).2.2 + more))))).length → (tset (pathOf (0 + job.toNat * 3 + 2)) t (iv (minI 60 (IntKind.i64.wrap ((gL J job.toNat).2.2 + more))))).get j = (lks (ltJ J job.toNat (minI 60 (IntKind.i64.wrap ((gL J job.toNat).2.2 + more)))))[j]? :=fun j _ => by
    unfold ltJ
    rw [qbq gt,qm6 J _ (by omega),Nat.zero_add,ht]
   refine ⟨rfl,rfl,rfl,rfl,rfl,rfl,?_⟩
   repeat' (first|exact trivial|exact ⟨_,rfl,FzV.slcL rfl (Nat.le_of_eq e5) hz (qau _) (by unfold ltJ;rw [List.length_set];omega),lkA_no _⟩ | (refine ⟨_,rfl,FzV.no ?_,?_⟩ <;> exact (by repeat' (first|exact trivial|assumption|exact qau _|exact (fun _ h => nomatch h)|apply And.intro)))|apply And.intro)
  conv => whnf
  have lV:Lives noL (lks (mrW W worker.toNat (minI 3 (IntKind.i64.wrap ((gL W worker.toNat).1 + more))) (a,b,c))) :=qau _
  have lK:Lives noL (lks (ltJ J job.toNat (minI 60 (IntKind.i64.wrap ((gL J job.toNat).2.2 + more))))) :=qau _
  have wv :=(hW.2 worker.toNat hwn).1
  have wj :=(hJ.2 job.toNat hjn).2.2
  have v1:(gL W worker.toNat).1 ≤ minI 3 (IntKind.i64.wrap ((gL W worker.toNat).1 + more)) :=by
   rw [show IntKind.i64.wrap ((gL W worker.toNat).1 + more) = (gL W worker.toNat).1 + more from qdp (by omega) (by omega)]
   unfold minI
   split <;> omega
  have v2:(gL J job.toNat).2.2 ≤ minI 60 (IntKind.i64.wrap ((gL J job.toNat).2.2 + more)) :=by
   rw [show IntKind.i64.wrap ((gL J job.toNat).2.2 + more) = (gL J job.toNat).2.2 + more from qdp (by omega) (by omega)]
   unfold minI
   split <;> omega
  have mW:MoreW W (mrW W worker.toNat (minI 3 (IntKind.i64.wrap ((gL W worker.toNat).1 + more))) (a,b,c)) :=qow hwn v1
  have mJ:LateJ J (ltJ J job.toNat (minI 60 (IntKind.i64.wrap ((gL J job.toNat).2.2 + more)))) :=qo1 hjn v2
  have lv:((mrW W worker.toNat (minI 3 (IntKind.i64.wrap ((gL W worker.toNat).1 + more))) (a,b,c))).length ≤ 5 :=by
   unfold mrW
   split
   ·rw [List.length_append,List.length_set];show W.length + 1 ≤ 5;omega
   ·rw [List.length_set];omega
  have lk:((ltJ J job.toNat (minI 60 (IntKind.i64.wrap ((gL J job.toNat).2.2 + more))))).length ≤ 8 :=by rw [mJ.len];omega
  have pS2 :=qe3 (x :=lkA (mrW W worker.toNat (minI 3 (IntKind.i64.wrap ((gL W worker.toNat).1 + more))) (a,b,c))) (y :=lkA (ltJ J job.toNat (minI 60 (IntKind.i64.wrap ((gL J job.toNat).2.2 + more))))) (.inr rfl) (.inr rfl) lv lk
  have pA :=qe2 hW hJ
  by_cases s2:areW (mrW W worker.toNat (minI 3 (IntKind.i64.wrap ((gL W worker.toNat).1 + more))) (a,b,c)) ∧ areJ (ltJ J job.toNat (minI 60 (IntKind.i64.wrap ((gL J job.toNat).2.2 + more))))
  rotate_left
  ·have c2:(!decide (areW (mrW W worker.toNat (minI 3 (IntKind.i64.wrap ((gL W worker.toNat).1 + more))) (a,b,c)) ∧ areJ (ltJ J job.toNat (minI 60 (IntKind.i64.wrap ((gL J job.toNat).2.2 + more)))))) = true :=nt_f (decide_eq_false s2)
   refine qaz hE hS ?_
   conv => whnf
   repeat ((first|refine qai c2 ?_|refine qah c2 ?_|refine pkT c2 ?_|refine qaa c2 ?_|refine qab hC (pS2) ?_|refine qab hC (known) ?_|refine qad hS (by kernel_rfl) ?_);conv => whnf)
   exact ⟨_,rfl,Wk.refl _⟩
  have c2:(!decide (areW (mrW W worker.toNat (minI 3 (IntKind.i64.wrap ((gL W worker.toNat).1 + more))) (a,b,c)) ∧ areJ (ltJ J job.toNat (minI 60 (IntKind.i64.wrap ((gL J job.toNat).2.2 + more)))))) = false :=nt_t (decide_eq_true s2)
  have pB :=qe2 s2.1 s2.2
  have hm2 :=fun p (h:qdm W J = some p) => qla mW mJ h
  cases hb:qdm W J with
  |none =>
   rw [hb] at pA
   cases hb2:qdm (mrW W worker.toNat (minI 3 (IntKind.i64.wrap ((gL W worker.toNat).1 + more))) (a,b,c)) (ltJ J job.toNat (minI 60 (IntKind.i64.wrap ((gL J job.toNat).2.2 + more)))) with
   |none =>
    rw [hb2] at pB
    refine qaz hE hS ?_
    conv => whnf
    repeat ((first|refine qao c2 ?_|refine qap c2 ?_|refine pkF c2 ?_|refine qac c2 ?_|refine qab hC (pS2) ?_|refine qab hC (known) ?_|refine qab hC (pA) ?_|refine qab hC (pB) ?_|refine qad hS (by kernel_rfl) ?_);conv => whnf)
    exact ⟨_,rfl,Wk.refl _⟩
   |some q =>
    have lq :=qal q.1
    rw [hb2] at pB
    refine qaz hE hS ?_
    conv => whnf
    repeat ((first|refine qao c2 ?_|refine qap c2 ?_|refine pkF c2 ?_|refine qac c2 ?_|refine qab hC (pS2) ?_|refine qab hC (known) ?_|refine qab hC (pA) ?_|refine qab hC (pB) ?_|refine qad hS (by kernel_rfl) ?_);conv => whnf)
    exact ⟨_,rfl,Wk.refl _⟩
  |some p =>
   have lp :=qal p.1
   rw [hb] at pA
   obtain ⟨q,hb2,hle⟩ :=hm2 p hb
   rw [hb2] at pB
   have lq :=qal q.1
   have c3:decide (q.2 ≤ p.2) = true :=decide_eq_true hle
   refine qaz hE hS ?_
   conv => whnf
   repeat ((first|refine qao c2 ?_|refine qap c2 ?_|refine pkF c2 ?_|refine qac c2 ?_|refine qai c3 ?_|refine qah c3 ?_|refine pkT c3 ?_|refine qaa c3 ?_|refine qai (qaj c3) ?_|refine qah (qaj c3) ?_|refine pkT (qaj c3) ?_|refine qaa (qaj c3) ?_|refine qab hC (pS2) ?_|refine qab hC (known) ?_|refine qab hC (pA) ?_|refine qab hC (pB) ?_|refine qad hS (by kernel_rfl) ?_);conv => whnf)
   exact ⟨_,rfl,Wk.refl _⟩
 ·skip
  refine qft (hEM muL) rfl (by repeat' first|exact trivial|assumption|exact qag _|exact fun _ h => nomatch h|apply And.intro) (by repeat' first|exact trivial|assumption|exact qag _|exact fun _ h => nomatch h|apply And.intro) fun S q pc hS hq hC hE => ?_
  conv => whnf
  refine qd0 hS (zs :=[_]) [0,1,2,3,4,5,6,7,8,9] [(21,.lptr [iv a,iv b,iv c] 0),(22,.bool false)] (fun i => by rw [qc8]) ?_ ?_
  ·conv => whnf
   refine qaz hE hS ?_
   conv => whnf
   refine ⟨rfl,rfl,rfl,rfl,rfl,rfl,?_⟩
   repeat' (first|exact trivial|exact ⟨_,rfl,FzV.ptr (n :=3) rfl rfl (get3 rfl rfl rfl) ⟨trivial,trivial,trivial,trivial⟩,⟨trivial,trivial,trivial,trivial⟩⟩ | (refine ⟨_,rfl,FzV.no ?_,?_⟩ <;> exact (by repeat' first|exact trivial|assumption|exact qag _|exact fun _ h => nomatch h|apply And.intro))|apply And.intro)
  conv => whnf
  refine qdv (E :=EM muL q pc) hS (qaz hE hS ?_)
  conv => whnf
  repeat ((first|refine qao cf ?_|refine qap cf ?_|refine pkF cf ?_|refine qac cf ?_|refine qai (gff cf) ?_|refine qah (gff cf) ?_|refine pkT (gff cf) ?_|refine qaa (gff cf) ?_|refine qab hC (pL) ?_|refine qab hC (pF) ?_|refine qad hS (by kernel_rfl) ?_);conv => whnf)
  refine qe0 (E :=EM muL q pc) hS (A :=Unit) [5,6,7,8,9,21,22] (fun _ => []) (fun _ => []) (fun _ => []) (fun _ => True) (Nat.le_refl _) ?_ ?_
  ·refine qaz hE hS ?_
   conv => whnf
   by_cases c1:swOk long saw
   rotate_left
   ·rw [decide_eq_false c1] at r1
    repeat ((first|refine qab hC (r1) ?_|refine qad hS (by kernel_rfl) ?_);conv => whnf)
    exact ⟨(),trivial,(by refine ⟨rfl,rfl,rfl,rfl,rfl,rfl,0,rfl,?_,?_⟩ <;> repeat' (first|exact trivial|exact rfl|exact ⟨_,rfl,WkV.refl _⟩|exact ⟨_,rfl,WkV.own _ _ _⟩|exact Nat.zero_le _|exact qae (qau _)|exact qae (qal _)|exact kle rfl|exact qae (by assumption)|exact qae (qag _)|exact qae (qal _)|exact qae (qa0 _)|exact mxI rfl|exact mxS rfl|apply And.intro))⟩
   rw [decide_eq_true c1] at r1
   by_cases c2:wlOk T
   rotate_left
   ·rw [decide_eq_false c2] at r2
    repeat ((first|refine qab hC (r1) ?_|refine qab hC (r2) ?_|refine qad hS (by kernel_rfl) ?_);conv => whnf)
    exact ⟨(),trivial,(by refine ⟨rfl,rfl,rfl,rfl,rfl,rfl,0,rfl,?_,?_⟩ <;> repeat' (first|exact trivial|exact rfl|exact ⟨_,rfl,WkV.refl _⟩|exact ⟨_,rfl,WkV.own _ _ _⟩|exact Nat.zero_le _|exact qae (qau _)|exact qae (qal _)|exact kle rfl|exact qae (by assumption)|exact qae (qag _)|exact qae (qal _)|exact qae (qa0 _)|exact mxI rfl|exact mxS rfl|apply And.intro))⟩
   rw [decide_eq_true c2] at r2
   by_cases c3:0 ≤ longer
   rotate_left
   ·have f3:decide (longer ≥ 0) = false :=decide_eq_false c3
    repeat ((first|refine qao f3 ?_|refine qap f3 ?_|refine pkF f3 ?_|refine qac f3 ?_|refine qao (qay f3) ?_|refine qap (qay f3) ?_|refine pkF (qay f3) ?_|refine qac (qay f3) ?_|refine qab hC (r1) ?_|refine qab hC (r2) ?_|refine qad hS (by kernel_rfl) ?_);conv => whnf)
    exact ⟨(),trivial,(by refine ⟨rfl,rfl,rfl,rfl,rfl,rfl,0,rfl,?_,?_⟩ <;> repeat' (first|exact trivial|exact rfl|exact ⟨_,rfl,WkV.refl _⟩|exact ⟨_,rfl,WkV.own _ _ _⟩|exact Nat.zero_le _|exact qae (qau _)|exact qae (qal _)|exact kle rfl|exact qae (by assumption)|exact qae (qag _)|exact qae (qal _)|exact qae (qa0 _)|exact mxI rfl|exact mxS rfl|apply And.intro))⟩
   have t3:decide (longer ≥ 0) = true :=decide_eq_true c3
   have w4:IntKind.i64.wrap (500 - long) = 500 - long :=qdp (by have :=c1.1;omega) (by have :=c1.1;omega)
   by_cases c4:longer ≤ 500 - long
   rotate_left
   ·have f4:decide (longer ≤ IntKind.i64.wrap (500 - long)) = false :=decide_eq_false (by rw [w4];exact c4)
    repeat ((first|refine qai t3 ?_|refine qah t3 ?_|refine pkT t3 ?_|refine qaa t3 ?_|refine qai (qaj t3) ?_|refine qah (qaj t3) ?_|refine pkT (qaj t3) ?_|refine qaa (qaj t3) ?_|refine qao f4 ?_|refine qap f4 ?_|refine pkF f4 ?_|refine qac f4 ?_|refine qao (qay f4) ?_|refine qap (qay f4) ?_|refine pkF (qay f4) ?_|refine qac (qay f4) ?_|refine qab hC (r1) ?_|refine qab hC (r2) ?_|refine qad hS (by kernel_rfl) ?_);conv => whnf)
    exact ⟨(),trivial,(by refine ⟨rfl,rfl,rfl,rfl,rfl,rfl,0,rfl,?_,?_⟩ <;> repeat' (first|exact trivial|exact rfl|exact ⟨_,rfl,WkV.refl _⟩|exact ⟨_,rfl,WkV.own _ _ _⟩|exact Nat.zero_le _|exact qae (qau _)|exact qae (qal _)|exact kle rfl|exact qae (by assumption)|exact qae (qag _)|exact qae (qal _)|exact qae (qa0 _)|exact mxI rfl|exact mxS rfl|apply And.intro))⟩
   have t4:decide (longer ≤ IntKind.i64.wrap (500 - long)) = true :=decide_eq_true (by rw [w4];exact c4)
   by_cases c5:0 ≤ thinner
   rotate_left
   ·have f5:decide (thinner ≥ 0) = false :=decide_eq_false c5
    repeat ((first|refine qai t3 ?_|refine qah t3 ?_|refine pkT t3 ?_|refine qaa t3 ?_|refine qai (qaj t3) ?_|refine qah (qaj t3) ?_|refine pkT (qaj t3) ?_|refine qaa (qaj t3) ?_|refine qai t4 ?_|refine qah t4 ?_|refine pkT t4 ?_|refine qaa t4 ?_|refine qai (qaj t4) ?_|refine qah (qaj t4) ?_|refine pkT (qaj t4) ?_|refine qaa (qaj t4) ?_|refine qao f5 ?_|refine qap f5 ?_|refine pkF f5 ?_|refine qac f5 ?_|refine qao (qay f5) ?_|refine qap (qay f5) ?_|refine pkF (qay f5) ?_|refine qac (qay f5) ?_|refine qab hC (r1) ?_|refine qab hC (r2) ?_|refine qad hS (by kernel_rfl) ?_);conv => whnf)
    exact ⟨(),trivial,(by refine ⟨rfl,rfl,rfl,rfl,rfl,rfl,0,rfl,?_,?_⟩ <;> repeat' (first|exact trivial|exact rfl|exact ⟨_,rfl,WkV.refl _⟩|exact ⟨_,rfl,WkV.own _ _ _⟩|exact Nat.zero_le _|exact qae (qau _)|exact qae (qal _)|exact kle rfl|exact qae (by assumption)|exact qae (qag _)|exact qae (qal _)|exact qae (qa0 _)|exact mxI rfl|exact mxS rfl|apply And.intro))⟩
   have t5:decide (thinner ≥ 0) = true :=decide_eq_true c5
   by_cases c6:thinner ≤ saw
   rotate_left
   ·have f6:decide (thinner ≤ saw) = false :=decide_eq_false c6
    repeat ((first|refine qai t3 ?_|refine qah t3 ?_|refine pkT t3 ?_|refine qaa t3 ?_|refine qai (qaj t3) ?_|refine qah (qaj t3) ?_|refine pkT (qaj t3) ?_|refine qaa (qaj t3) ?_|refine qai t4 ?_|refine qah t4 ?_|refine pkT t4 ?_|refine qaa t4 ?_|refine qai (qaj t4) ?_|refine qah (qaj t4) ?_|refine pkT (qaj t4) ?_|refine qaa (qaj t4) ?_|refine qai t5 ?_|refine qah t5 ?_|refine pkT t5 ?_|refine qaa t5 ?_|refine qai (qaj t5) ?_|refine qah (qaj t5) ?_|refine pkT (qaj t5) ?_|refine qaa (qaj t5) ?_|refine qao f6 ?_|refine qap f6 ?_|refine pkF f6 ?_|refine qac f6 ?_|refine qao (qay f6) ?_|refine qap (qay f6) ?_|refine pkF (qay f6) ?_|refine qac (qay f6) ?_|refine qab hC (r1) ?_|refine qab hC (r2) ?_|refine qad hS (by kernel_rfl) ?_);conv => whnf)
    exact ⟨(),trivial,(by refine ⟨rfl,rfl,rfl,rfl,rfl,rfl,0,rfl,?_,?_⟩ <;> repeat' (first|exact trivial|exact rfl|exact ⟨_,rfl,WkV.refl _⟩|exact ⟨_,rfl,WkV.own _ _ _⟩|exact Nat.zero_le _|exact qae (qau _)|exact qae (qal _)|exact kle rfl|exact qae (by assumption)|exact qae (qag _)|exact qae (qal _)|exact qae (qa0 _)|exact mxI rfl|exact mxS rfl|apply And.intro))⟩
   have t6:decide (thinner ≤ saw) = true :=decide_eq_true c6
   obtain ⟨o,o',p1,p2,ho⟩ :=qio (T :=T) ⟨⟨c1,c2⟩,⟨c3,c4⟩,c5,c6⟩
   cases o with
   |none =>
    cases o' with
    |none =>
     repeat ((first|refine qai t3 ?_|refine qah t3 ?_|refine pkT t3 ?_|refine qaa t3 ?_|refine qai (qaj t3) ?_|refine qah (qaj t3) ?_|refine pkT (qaj t3) ?_|refine qaa (qaj t3) ?_|refine qai t4 ?_|refine qah t4 ?_|refine pkT t4 ?_|refine qaa t4 ?_|refine qai (qaj t4) ?_|refine qah (qaj t4) ?_|refine pkT (qaj t4) ?_|refine qaa (qaj t4) ?_|refine qai t5 ?_|refine qah t5 ?_|refine pkT t5 ?_|refine qaa t5 ?_|refine qai (qaj t5) ?_|refine qah (qaj t5) ?_|refine pkT (qaj t5) ?_|refine qaa (qaj t5) ?_|refine qai t6 ?_|refine qah t6 ?_|refine pkT t6 ?_|refine qaa t6 ?_|refine qai (qaj t6) ?_|refine qah (qaj t6) ?_|refine pkT (qaj t6) ?_|refine qaa (qaj t6) ?_|refine qab hC (r1) ?_|refine qab hC (r2) ?_|refine qab hC (p1) ?_|refine qab hC (p2) ?_|refine qad hS (by kernel_rfl) ?_);conv => whnf)
     exact ⟨(),trivial,(by refine ⟨rfl,rfl,rfl,rfl,rfl,rfl,0,rfl,?_,?_⟩ <;> repeat' (first|exact trivial|exact rfl|exact ⟨_,rfl,WkV.refl _⟩|exact ⟨_,rfl,WkV.own _ _ _⟩|exact Nat.zero_le _|exact qae (qau _)|exact qae (qal _)|exact kle rfl|exact qae (by assumption)|exact qae (qag _)|exact qae (qal _)|exact qae (qa0 _)|exact mxI rfl|exact mxS rfl|apply And.intro))⟩
    |some l' =>
     have lL :=qal (zl l')
     repeat ((first|refine qai t3 ?_|refine qah t3 ?_|refine pkT t3 ?_|refine qaa t3 ?_|refine qai (qaj t3) ?_|refine qah (qaj t3) ?_|refine pkT (qaj t3) ?_|refine qaa (qaj t3) ?_|refine qai t4 ?_|refine qah t4 ?_|refine pkT t4 ?_|refine qaa t4 ?_|refine qai (qaj t4) ?_|refine qah (qaj t4) ?_|refine pkT (qaj t4) ?_|refine qaa (qaj t4) ?_|refine qai t5 ?_|refine qah t5 ?_|refine pkT t5 ?_|refine qaa t5 ?_|refine qai (qaj t5) ?_|refine qah (qaj t5) ?_|refine pkT (qaj t5) ?_|refine qaa (qaj t5) ?_|refine qai t6 ?_|refine qah t6 ?_|refine pkT t6 ?_|refine qaa t6 ?_|refine qai (qaj t6) ?_|refine qah (qaj t6) ?_|refine pkT (qaj t6) ?_|refine qaa (qaj t6) ?_|refine qab hC (r1) ?_|refine qab hC (r2) ?_|refine qab hC (p1) ?_|refine qab hC (p2) ?_|refine qad hS (by kernel_rfl) ?_);conv => whnf)
     exact ⟨(),trivial,(by refine ⟨rfl,rfl,rfl,rfl,rfl,rfl,0,rfl,?_,?_⟩ <;> repeat' (first|exact trivial|exact rfl|exact ⟨_,rfl,WkV.refl _⟩|exact ⟨_,rfl,WkV.own _ _ _⟩|exact Nat.zero_le _|exact qae (qau _)|exact qae (qal _)|exact kle rfl|exact qae (by assumption)|exact qae (qag _)|exact qae (qal _)|exact qae (qa0 _)|exact mxI rfl|exact mxS rfl|apply And.intro))⟩
   |some l =>
    obtain ⟨l',e',hle⟩ :=ho l rfl
    subst e'
    have lL :=qal (zl l')
    have lM :=qal (zl l)
    have t7:decide (Int.ofNat (mnA 0 l') > Int.ofNat (mnA 0 l)) = false :=decide_eq_false (Int.not_lt.2 (Int.ofNat_le.2 hle))
    repeat ((first|refine qai t3 ?_|refine qah t3 ?_|refine pkT t3 ?_|refine qaa t3 ?_|refine qai (qaj t3) ?_|refine qah (qaj t3) ?_|refine pkT (qaj t3) ?_|refine qaa (qaj t3) ?_|refine qai t4 ?_|refine qah t4 ?_|refine pkT t4 ?_|refine qaa t4 ?_|refine qai (qaj t4) ?_|refine qah (qaj t4) ?_|refine pkT (qaj t4) ?_|refine qaa (qaj t4) ?_|refine qai t5 ?_|refine qah t5 ?_|refine pkT t5 ?_|refine qaa t5 ?_|refine qai (qaj t5) ?_|refine qah (qaj t5) ?_|refine pkT (qaj t5) ?_|refine qaa (qaj t5) ?_|refine qai t6 ?_|refine qah t6 ?_|refine pkT t6 ?_|refine qaa t6 ?_|refine qai (qaj t6) ?_|refine qah (qaj t6) ?_|refine pkT (qaj t6) ?_|refine qaa (qaj t6) ?_|refine qao t7 ?_|refine qap t7 ?_|refine pkF t7 ?_|refine qac t7 ?_|refine qab hC (r1) ?_|refine qab hC (r2) ?_|refine qab hC (p1) ?_|refine qab hC (p2) ?_|refine qad hS (by kernel_rfl) ?_);conv => whnf)
    exact ⟨(),trivial,(by refine ⟨rfl,rfl,rfl,rfl,rfl,rfl,0,rfl,?_,?_⟩ <;> repeat' (first|exact trivial|exact rfl|exact ⟨_,rfl,WkV.refl _⟩|exact ⟨_,rfl,WkV.own _ _ _⟩|exact Nat.zero_le _|exact qae (qau _)|exact qae (qal _)|exact kle rfl|exact qae (by assumption)|exact qae (qag _)|exact qae (qal _)|exact qae (qa0 _)|exact mxI rfl|exact mxS rfl|apply And.intro))⟩
  intro _ _ N hN
  obtain rfl:N = 0 :=hN
  conv => whnf
  refine qe0 (E :=EM muL q pc) hS (A :=Unit) [5,6,7,8,9,21,22] (fun _ => []) (fun _ => []) (fun _ => []) (fun _ => (0 ≤ job ∧ job < (J.length:Int)) ∧ (0 ≤ worker ∧ worker < (W.length:Int)) ∧ 0 ≤ more ∧ more ≤ 60) (Nat.le_refl _) ?_ ?_
  ·refine qaz hE hS ?_
   conv => whnf
   by_cases c1:job < 0
   ·have t1:decide (job < 0) = true :=decide_eq_true c1
    repeat ((first|refine qao cs ?_|refine qap cs ?_|refine pkF cs ?_|refine qac cs ?_|refine qai (gff cs) ?_|refine qah (gff cs) ?_|refine pkT (gff cs) ?_|refine qaa (gff cs) ?_|refine qai t1 ?_|refine qah t1 ?_|refine pkT t1 ?_|refine qaa t1 ?_|refine qao (gft t1) ?_|refine qap (gft t1) ?_|refine pkF (gft t1) ?_|refine qac (gft t1) ?_|refine qab hC (pS) ?_|refine qab hC (known) ?_|refine qad hS (by kernel_rfl) ?_);conv => whnf)
    exact ⟨_,rfl,Wk.refl _⟩
   have f1:decide (job < 0) = false :=decide_eq_false c1
   by_cases c2:job < (J.length:Int)
   rotate_left
   ·have t2:decide (job ≥ (J.length:Int)) = true :=decide_eq_true (by omega)
    repeat ((first|refine qao cs ?_|refine qap cs ?_|refine pkF cs ?_|refine qac cs ?_|refine qai (gff cs) ?_|refine qah (gff cs) ?_|refine pkT (gff cs) ?_|refine qaa (gff cs) ?_|refine qao f1 ?_|refine qap f1 ?_|refine pkF f1 ?_|refine qac f1 ?_|refine qai (gff f1) ?_|refine qah (gff f1) ?_|refine pkT (gff f1) ?_|refine qaa (gff f1) ?_|refine qai t2 ?_|refine qah t2 ?_|refine pkT t2 ?_|refine qaa t2 ?_|refine qao (gft t2) ?_|refine qap (gft t2) ?_|refine pkF (gft t2) ?_|refine qac (gft t2) ?_|refine qab hC (pS) ?_|refine qab hC (known) ?_|refine qad hS (by kernel_rfl) ?_);conv => whnf)
    exact ⟨_,rfl,Wk.refl _⟩
   have f2:decide (job ≥ (J.length:Int)) = false :=decide_eq_false (by omega)
   by_cases c3:worker < 0
   ·have t3:decide (worker < 0) = true :=decide_eq_true c3
    repeat ((first|refine qao cs ?_|refine qap cs ?_|refine pkF cs ?_|refine qac cs ?_|refine qai (gff cs) ?_|refine qah (gff cs) ?_|refine pkT (gff cs) ?_|refine qaa (gff cs) ?_|refine qao f1 ?_|refine qap f1 ?_|refine pkF f1 ?_|refine qac f1 ?_|refine qai (gff f1) ?_|refine qah (gff f1) ?_|refine pkT (gff f1) ?_|refine qaa (gff f1) ?_|refine qao f2 ?_|refine qap f2 ?_|refine pkF f2 ?_|refine qac f2 ?_|refine qai (gff f2) ?_|refine qah (gff f2) ?_|refine pkT (gff f2) ?_|refine qaa (gff f2) ?_|refine qai t3 ?_|refine qah t3 ?_|refine pkT t3 ?_|refine qaa t3 ?_|refine qao (gft t3) ?_|refine qap (gft t3) ?_|refine pkF (gft t3) ?_|refine qac (gft t3) ?_|refine qab hC (pS) ?_|refine qab hC (known) ?_|refine qad hS (by kernel_rfl) ?_);conv => whnf)
    exact ⟨_,rfl,Wk.refl _⟩
   have f3:decide (worker < 0) = false :=decide_eq_false c3
   by_cases c4:worker < (W.length:Int)
   rotate_left
   ·have t4:decide (worker ≥ (W.length:Int)) = true :=decide_eq_true (by omega)
    repeat ((first|refine qao cs ?_|refine qap cs ?_|refine pkF cs ?_|refine qac cs ?_|refine qai (gff cs) ?_|refine qah (gff cs) ?_|refine pkT (gff cs) ?_|refine qaa (gff cs) ?_|refine qao f1 ?_|refine qap f1 ?_|refine pkF f1 ?_|refine qac f1 ?_|refine qai (gff f1) ?_|refine qah (gff f1) ?_|refine pkT (gff f1) ?_|refine qaa (gff f1) ?_|refine qao f2 ?_|refine qap f2 ?_|refine pkF f2 ?_|refine qac f2 ?_|refine qai (gff f2) ?_|refine qah (gff f2) ?_|refine pkT (gff f2) ?_|refine qaa (gff f2) ?_|refine qao f3 ?_|refine qap f3 ?_|refine pkF f3 ?_|refine qac f3 ?_|refine qai (gff f3) ?_|refine qah (gff f3) ?_|refine pkT (gff f3) ?_|refine qaa (gff f3) ?_|refine qai t4 ?_|refine qah t4 ?_|refine pkT t4 ?_|refine qaa t4 ?_|refine qao (gft t4) ?_|refine qap (gft t4) ?_|refine pkF (gft t4) ?_|refine qac (gft t4) ?_|refine qab hC (pS) ?_|refine qab hC (known) ?_|refine qad hS (by kernel_rfl) ?_);conv => whnf)
    exact ⟨_,rfl,Wk.refl _⟩
   have f4:decide (worker ≥ (W.length:Int)) = false :=decide_eq_false (by omega)
   by_cases c5:more < 0
   ·have t5:decide (more < 0) = true :=decide_eq_true c5
    repeat ((first|refine qao cs ?_|refine qap cs ?_|refine pkF cs ?_|refine qac cs ?_|refine qai (gff cs) ?_|refine qah (gff cs) ?_|refine pkT (gff cs) ?_|refine qaa (gff cs) ?_|refine qao f1 ?_|refine qap f1 ?_|refine pkF f1 ?_|refine qac f1 ?_|refine qai (gff f1) ?_|refine qah (gff f1) ?_|refine pkT (gff f1) ?_|refine qaa (gff f1) ?_|refine qao f2 ?_|refine qap f2 ?_|refine pkF f2 ?_|refine qac f2 ?_|refine qai (gff f2) ?_|refine qah (gff f2) ?_|refine pkT (gff f2) ?_|refine qaa (gff f2) ?_|refine qao f3 ?_|refine qap f3 ?_|refine pkF f3 ?_|refine qac f3 ?_|refine qai (gff f3) ?_|refine qah (gff f3) ?_|refine pkT (gff f3) ?_|refine qaa (gff f3) ?_|refine qao f4 ?_|refine qap f4 ?_|refine pkF f4 ?_|refine qac f4 ?_|refine qai (gff f4) ?_|refine qah (gff f4) ?_|refine pkT (gff f4) ?_|refine qaa (gff f4) ?_|refine qai t5 ?_|refine qah t5 ?_|refine pkT t5 ?_|refine qaa t5 ?_|refine qao (gft t5) ?_|refine qap (gft t5) ?_|refine pkF (gft t5) ?_|refine qac (gft t5) ?_|refine qab hC (pS) ?_|refine qab hC (known) ?_|refine qad hS (by kernel_rfl) ?_);conv => whnf)
    exact ⟨_,rfl,Wk.refl _⟩
   have f5:decide (more < 0) = false :=decide_eq_false c5
   by_cases c6:more > 60
   ·have t6:decide (more > 60) = true :=decide_eq_true c6
    repeat ((first|refine qao cs ?_|refine qap cs ?_|refine pkF cs ?_|refine qac cs ?_|refine qai (gff cs) ?_|refine qah (gff cs) ?_|refine pkT (gff cs) ?_|refine qaa (gff cs) ?_|refine qao f1 ?_|refine qap f1 ?_|refine pkF f1 ?_|refine qac f1 ?_|refine qai (gff f1) ?_|refine qah (gff f1) ?_|refine pkT (gff f1) ?_|refine qaa (gff f1) ?_|refine qao f2 ?_|refine qap f2 ?_|refine pkF f2 ?_|refine qac f2 ?_|refine qai (gff f2) ?_|refine qah (gff f2) ?_|refine pkT (gff f2) ?_|refine qaa (gff f2) ?_|refine qao f3 ?_|refine qap f3 ?_|refine pkF f3 ?_|refine qac f3 ?_|refine qai (gff f3) ?_|refine qah (gff f3) ?_|refine pkT (gff f3) ?_|refine qaa (gff f3) ?_|refine qao f4 ?_|refine qap f4 ?_|refine pkF f4 ?_|refine qac f4 ?_|refine qai (gff f4) ?_|refine qah (gff f4) ?_|refine pkT (gff f4) ?_|refine qaa (gff f4) ?_|refine qao f5 ?_|refine qap f5 ?_|refine pkF f5 ?_|refine qac f5 ?_|refine qai (gff f5) ?_|refine qah (gff f5) ?_|refine pkT (gff f5) ?_|refine qaa (gff f5) ?_|refine qai t6 ?_|refine qah t6 ?_|refine pkT t6 ?_|refine qaa t6 ?_|refine qao (gft t6) ?_|refine qap (gft t6) ?_|refine pkF (gft t6) ?_|refine qac (gft t6) ?_|refine qab hC (pS) ?_|refine qab hC (known) ?_|refine qad hS (by kernel_rfl) ?_);conv => whnf)
    exact ⟨_,rfl,Wk.refl _⟩
   have f6:decide (more > 60) = false :=decide_eq_false c6
   repeat ((first|refine qao cs ?_|refine qap cs ?_|refine pkF cs ?_|refine qac cs ?_|refine qai (gff cs) ?_|refine qah (gff cs) ?_|refine pkT (gff cs) ?_|refine qaa (gff cs) ?_|refine qao f1 ?_|refine qap f1 ?_|refine pkF f1 ?_|refine qac f1 ?_|refine qai (gff f1) ?_|refine qah (gff f1) ?_|refine pkT (gff f1) ?_|refine qaa (gff f1) ?_|refine qao f2 ?_|refine qap f2 ?_|refine pkF f2 ?_|refine qac f2 ?_|refine qai (gff f2) ?_|refine qah (gff f2) ?_|refine pkT (gff f2) ?_|refine qaa (gff f2) ?_|refine qao f3 ?_|refine qap f3 ?_|refine pkF f3 ?_|refine qac f3 ?_|refine qai (gff f3) ?_|refine qah (gff f3) ?_|refine pkT (gff f3) ?_|refine qaa (gff f3) ?_|refine qao f4 ?_|refine qap f4 ?_|refine pkF f4 ?_|refine qac f4 ?_|refine qai (gff f4) ?_|refine qah (gff f4) ?_|refine pkT (gff f4) ?_|refine qaa (gff f4) ?_|refine qao f5 ?_|refine qap f5 ?_|refine pkF f5 ?_|refine qac f5 ?_|refine qai (gff f5) ?_|refine qah (gff f5) ?_|refine pkT (gff f5) ?_|refine qaa (gff f5) ?_|refine qao f6 ?_|refine qap f6 ?_|refine pkF f6 ?_|refine qac f6 ?_|refine qai (gff f6) ?_|refine qah (gff f6) ?_|refine pkT (gff f6) ?_|refine qaa (gff f6) ?_|refine qab hC (pS) ?_|refine qab hC (known) ?_|refine qad hS (by kernel_rfl) ?_);conv => whnf)
   exact ⟨(),⟨⟨by omega,c2⟩,⟨by omega,c4⟩,by omega,by omega⟩,(by refine ⟨rfl,rfl,rfl,rfl,rfl,rfl,0,rfl,?_,?_⟩ <;> repeat' (first|exact trivial|exact rfl|exact ⟨_,rfl,WkV.refl _⟩|exact ⟨_,rfl,WkV.own _ _ _⟩|exact Nat.zero_le _|exact qae (qau _)|exact qae (qal _)|exact kle rfl|exact qae (by assumption)|exact qae (qag _)|exact qae (qal _)|exact qae (qa0 _)|exact mxI rfl|exact mxS rfl|apply And.intro))⟩
  intro _ hC N hN
  obtain rfl:N = 0 :=hN
  obtain ⟨⟨j1,j2⟩,⟨w1,w2⟩,m1,m2⟩ :=hC
  have hw3 :=hW.1
  have hj6 :=hJ.1
  have l1 :=lks_len W
  have l2 :=lks_len J
  have hwn:worker.toNat < W.length :=by omega
  have hjn:job.toNat < J.length :=by omega
  have iw:inR worker W.length = true :=by
   rw [show worker = Int.ofNat worker.toNat from (Int.toNat_of_nonneg w1).symm]
   exact qav hwn
  have ij:inR job J.length = true :=by
   rw [show job = Int.ofNat job.toNat from (Int.toNat_of_nonneg j1).symm]
   exact qav hjn
  obtain ⟨m,hm⟩ : ∃ m,W.length = m + 1 :=⟨W.length - 1,by omega⟩
  obtain ⟨k,hk⟩ : ∃ k,J.length = k + 1 :=⟨J.length - 1,by omega⟩
  conv => whnf
  refine qk6 hS (zs :=[_,_]) (lks W) W.length 3 55 (fun C => [(5,lkA W),(6,lkA J),(7,iv job),(8,iv worker),(9,iv more),(21,.lptr [iv a,iv b,iv c] 0),(22,.bool false),(29,.slc 0 0 W.length C)]) [5,6,7,8,9,22] [(29,lkA (mrW W worker.toNat (minI 3 (IntKind.i64.wrap ((gL W worker.toNat).1 + more))) (a,b,c)))] (fun i => by show hv .nil i = _;rw [qc8]) lW ?_ ?_ ?_
  ·refine qaz hE hS ?_
   conv => whnf
   refine qaf (qd9 (e :=55) (ys :=lks W) (m :=W.length) (own :=.no) (l :=lks W) (by kernel_rfl) rfl (qfq _)) ?_
   rw [hm]
   conv => whnf
   refine qaa (qc4 W) ?_
   conv => whnf
   refine qaa (decide_eq_true (show (m + 1) * 24 ≤ 140737488355328 by omega)) ?_
   conv => whnf
   refine qaa (decide_eq_true (show m + 1 ≤ 9223372036854775807 by omega)) ?_
   conv => whnf
   refine ⟨0,rfl,rfl,rfl,rfl,rfl,rfl,rfl,fun C => ?_⟩
   repeat' (first|exact trivial|exact ⟨_,rfl,.inr ⟨rfl,rfl⟩⟩ | (refine ⟨_,rfl,.inl ⟨WkV.refl _,?_⟩⟩;exact (by repeat' first|exact trivial|assumption|exact qag _|exact fun _ h => nomatch h|apply And.intro))|apply And.intro)
  ·intro C t hC ht
   have hx0:∀ j,j < W.length * 3 → t.get j = (lks W)[j]? :=fun j hj => by rw [ht,List.getElem?_append_left (by rw [l1];exact hj)]
   have g0 :=qbf W worker.toNat hwn
   have gt:t.get (worker.toNat * 3) = some (iv (gL W worker.toNat).1) :=(hx0 _ (by omega)).trans (qiy W hwn).1
   have gt':t.get (0 + worker.toNat * 3) = some (iv (gL W worker.toNat).1) :=by rw [Nat.zero_add];exact gt
   have b1:Nat.ble (0 + worker.toNat * 3 + 1) (C * 3) = true :=Nat.ble_eq_true_of_le (by omega)
   conv => whnf
   refine qaz hE hS ?_
   conv => whnf
   repeat ((first|refine qaf (nthP g0) ?_|refine qai iw ?_|refine qah iw ?_|refine pkT iw ?_|refine qaa iw ?_|refine qai b1 ?_|refine qah b1 ?_|refine pkT b1 ?_|refine qaa b1 ?_|refine qad hS (by kernel_rfl) ?_);conv => whnf)
   refine qdg gt' ?_
   conv => whnf
   refine qaz hE hS ?_
   conv => whnf
   have b2:Nat.ble W.length C = true :=Nat.ble_eq_true_of_le hC
   have hx1 :=qn4 (minI 3 (IntKind.i64.wrap ((gL W worker.toNat).1 + more))) hwn hx0
   have e3:(lks (W.set worker.toNat (minI 3 (IntKind.i64.wrap ((gL W worker.toNat).1 + more)),(gL W worker.toNat).2.1,(gL W worker.toNat).2.2))).length = W.length * 3 :=by rw [lks_len,List.length_set]
   by_cases q:W.length < 3
   ·have q1:decide ((W.length:Int) < 3) = true :=decide_eq_true (by omega)
    have eV:mrW W worker.toNat (minI 3 (IntKind.i64.wrap ((gL W worker.toNat).1 + more))) (a,b,c) = W.set worker.toNat (minI 3 (IntKind.i64.wrap ((gL W worker.toNat).1 + more)),(gL W worker.toNat).2.1,(gL W worker.toNat).2.2) ++ [(a,b,c)] :=if_pos q
    have vlen:(mrW W worker.toNat (minI 3 (IntKind.i64.wrap ((gL W worker.toNat).1 + more))) (a,b,c)).length = W.length + (0 + 1) :=by rw [eV,List.length_append,List.length_set];rfl
    have lV3:(lks (mrW W worker.toNat (minI 3 (IntKind.i64.wrap ((gL W worker.toNat).1 + more))) (a,b,c))).length = W.length * 3 + 3 :=by rw [lks_len,vlen];omega
    by_cases hCC:W.length + 1 ≤ C
    ·have b3:Nat.ble (W.length + (0 + 1)) C = true :=Nat.ble_eq_true_of_le hCC
     have b4:Nat.ble (W.length * 3 + 3) (C * 3) = true :=Nat.ble_eq_true_of_le (by omega)
     have u:∀ i,i < 3 → (tset (pathOf (0 + worker.toNat * 3)) t (iv (minI 3 (IntKind.i64.wrap ((gL W worker.toNat).1 + more))))).get (W.length * 3 + i) = some .unk :=fun i hi => by
      rw [qbq gt',if_neg (by omega),ht,List.getElem?_append_right (by omega),l1,List.getElem?_replicate,if_pos (by omega)]
     have u0 :=u 0 (by decide)
     rw [Nat.add_zero] at u0
     have u1 :=u 1 (by decide)
     have u2 :=u 2 (by decide)
     have u1':(tset (pathOf (W.length * 3)) (tset (pathOf (0 + worker.toNat * 3)) t (iv (minI 3 (IntKind.i64.wrap ((gL W worker.toNat).1 + more))))) (iv a)).get (W.length * 3 + 1) = some .unk :=by rw [qbq u0,if_neg (by omega)];exact u1
     have u2':(tset (pathOf (W.length * 3 + 1)) (tset (pathOf (W.length * 3)) (tset (pathOf (0 + worker.toNat * 3)) t (iv (minI 3 (IntKind.i64.wrap ((gL W worker.toNat).1 + more))))) (iv a)) (iv b)).get (W.length * 3 + 2) = some .unk :=by rw [qbq u1',if_neg (by omega),qbq u0,if_neg (by omega)];exact u2
     have h4 :=qn3 (a :=a) (b :=b) (c :=c) List.length_set hx1 u0 u1 u2
     have hz:∀ j,j < (lks (mrW W worker.toNat (minI 3 (IntKind.i64.wrap ((gL W worker.toNat).1 + more))) (a,b,c))).length → _ = (lks (mrW W worker.toNat (minI 3 (IntKind.i64.wrap ((gL W worker.toNat).1 + more))) (a,b,c)))[j]? :=fun j hj => (h4 j (by rw [lV3] at hj;exact hj)).trans (by rw [eV])
     repeat ((first|refine qaf (mb_t b3) ?_|refine qai q1 ?_|refine qah q1 ?_|refine pkT q1 ?_|refine qaa q1 ?_|refine qai b2 ?_|refine qah b2 ?_|refine pkT b2 ?_|refine qaa b2 ?_|refine qai b4 ?_|refine qah b4 ?_|refine pkT b4 ?_|refine qaa b4 ?_|refine qad hS (by kernel_rfl) ?_);conv => whnf)
     refine qdg u0 ?_
     conv => whnf
     refine qdg u1' ?_
     conv => whnf
     refine qdg u2' ?_
     conv => whnf
     refine ⟨rfl,rfl,rfl,rfl,rfl,rfl,?_⟩
     repeat' (first|exact trivial|exact ⟨_,rfl,FzV.slcL rfl (by rw [lV3];omega) hz (qau _) vlen.symm,lkA_no _⟩ | (refine ⟨_,rfl,FzV.no ?_,?_⟩ <;> exact (by repeat' first|exact trivial|assumption|exact qag _|exact fun _ h => nomatch h|apply And.intro))|apply And.intro)
    ·have b3:Nat.ble (W.length + (0 + 1)) C = false :=Bool.eq_false_iff.2 fun z => hCC (Nat.le_of_ble_eq_true z)
     have d1:decide (W.length * 3 ≤ C * 3) = true :=decide_eq_true (by omega)
     have d2:decide ((W.length + (0 + 1)) * 24 ≤ 140737488355328) = true :=decide_eq_true (by omega)
     have d3:decide (W.length + (0 + 1) ≤ 9223372036854775807) = true :=decide_eq_true (by omega)
     have hld :=qke (t :=tset (pathOf (0 + worker.toNat * 3)) t (iv (minI 3 (IntKind.i64.wrap ((gL W worker.toNat).1 + more))))) (lks (W.set worker.toNat (minI 3 (IntKind.i64.wrap ((gL W worker.toNat).1 + more)),(gL W worker.toNat).2.1,(gL W worker.toNat).2.2))) 0 fun j hj => (congrArg _ (Nat.zero_add j)).trans (hx1 j (by rw [← e3];exact hj))
     rw [e3] at hld
     have e4:lks (W.set worker.toNat (minI 3 (IntKind.i64.wrap ((gL W worker.toNat).1 + more)),(gL W worker.toNat).2.1,(gL W worker.toNat).2.2)) ++ [iv a,iv b,iv c] = lks (mrW W worker.toNat (minI 3 (IntKind.i64.wrap ((gL W worker.toNat).1 + more))) (a,b,c)) :=by rw [eV,qh2];rfl
     repeat ((first|refine qaf (mb_f b3) ?_|refine qaf (qzi hld) ?_|refine qai q1 ?_|refine qah q1 ?_|refine pkT q1 ?_|refine qaa q1 ?_|refine qai b2 ?_|refine qah b2 ?_|refine pkT b2 ?_|refine qaa b2 ?_|refine qai d1 ?_|refine qah d1 ?_|refine pkT d1 ?_|refine qaa d1 ?_|refine qai d2 ?_|refine qah d2 ?_|refine pkT d2 ?_|refine qaa d2 ?_|refine qai d3 ?_|refine qah d3 ?_|refine pkT d3 ?_|refine qaa d3 ?_|refine qad hS (by kernel_rfl) ?_);conv => whnf)
     refine qhf ((congrArg List.length e4).trans lV3) ?_
     intro t4 ht4
     have hz:∀ j,j < (lks (mrW W worker.toNat (minI 3 (IntKind.i64.wrap ((gL W worker.toNat).1 + more))) (a,b,c))).length → t4.get j = (lks (mrW W worker.toNat (minI 3 (IntKind.i64.wrap ((gL W worker.toNat).1 + more))) (a,b,c)))[j]? :=fun j _ => (ht4 j).trans (by rw [← e4])
     conv => whnf
     refine ⟨rfl,rfl,rfl,rfl,rfl,rfl,?_⟩
     repeat' (first|exact trivial|exact ⟨_,rfl,FzV.slcL rfl (Nat.le_of_eq lV3) hz (qau _) vlen.symm,lkA_no _⟩ | (refine ⟨_,rfl,FzV.no ?_,?_⟩ <;> exact (by repeat' first|exact trivial|assumption|exact qag _|exact fun _ h => nomatch h|apply And.intro))|apply And.intro)
   ·have q1:decide ((W.length:Int) < 3) = false :=decide_eq_false (by omega)
    have eV:mrW W worker.toNat (minI 3 (IntKind.i64.wrap ((gL W worker.toNat).1 + more))) (a,b,c) = W.set worker.toNat (minI 3 (IntKind.i64.wrap ((gL W worker.toNat).1 + more)),(gL W worker.toNat).2.1,(gL W worker.toNat).2.2) :=if_neg q
    have hz:∀ j,j < (lks (mrW W worker.toNat (minI 3 (IntKind.i64.wrap ((gL W worker.toNat).1 + more))) (a,b,c))).length → (tset (pathOf (0 + worker.toNat * 3)) t (iv (minI 3 (IntKind.i64.wrap ((gL W worker.toNat).1 + more))))).get j = (lks (mrW W worker.toNat (minI 3 (IntKind.i64.wrap ((gL W worker.toNat).1 + more))) (a,b,c)))[j]? :=fun j hj => (hx1 j (by rw [eV,e3] at hj;exact hj)).trans (by rw [eV])
    repeat ((first|refine qao q1 ?_|refine qap q1 ?_|refine pkF q1 ?_|refine qac q1 ?_|refine qad hS (by kernel_rfl) ?_);conv => whnf)
    refine ⟨rfl,rfl,rfl,rfl,rfl,rfl,?_⟩
    repeat' (first|exact trivial|exact ⟨_,rfl,FzV.slcL rfl (by rw [eV,e3];omega) hz (qau _) (by rw [eV,List.length_set]),lkA_no _⟩ | (refine ⟨_,rfl,FzV.no ?_,?_⟩ <;> exact (by repeat' first|exact trivial|assumption|exact qag _|exact fun _ h => nomatch h|apply And.intro))|apply And.intro)
  conv => whnf
  refine qd0 hS (zs :=[_,_]) [5,6,22,29] [(30,lkA (ltJ J job.toNat (minI 60 (IntKind.i64.wrap ((gL J job.toNat).2.2 + more)))))] (fun i => by show hv .nil i = _;rw [qc8]) ?_ ?_
  ·conv => whnf
   refine qaz hE hS ?_
   conv => whnf
   refine qaf (qd9 (e :=53) (ys :=lks J) (m :=J.length) (own :=.no) (l :=lks J) (by kernel_rfl) rfl (qfq _)) ?_
   rw [hk]
   conv => whnf
   refine qaa (qc4 J) ?_
   conv => whnf
   refine qaa (decide_eq_true (show (k + 1) * 24 ≤ 140737488355328 by omega)) ?_
   conv => whnf
   refine qaa (decide_eq_true (show k + 1 ≤ 9223372036854775807 by omega)) ?_
   conv => whnf
   refine qhf (l2.trans (congrArg (· * 3) hk)) ?_
   intro t ht
   conv => whnf
   refine qaz hE hS ?_
   conv => whnf
   have g2 :=qck J job.toNat (by omega)
   have gt:t.get (0 + job.toNat * 3 + 2) = some (iv (gL J job.toNat).2.2) :=by rw [Nat.zero_add,ht];exact (qiy J (by omega)).2.2
   have b1:Nat.ble (0 + job.toNat * 3 + 2 + 1) ((k + 1) * 3) = true :=Nat.ble_eq_true_of_le (by omega)
   have ij2:inR job (k + 1) = true :=by rw [← hk];exact ij
   repeat ((first|refine qaf (nthP g2) ?_|refine qai ij ?_|refine qah ij ?_|refine pkT ij ?_|refine qaa ij ?_|refine qai ij2 ?_|refine qah ij2 ?_|refine pkT ij2 ?_|refine qaa ij2 ?_|refine qai b1 ?_|refine qah b1 ?_|refine pkT b1 ?_|refine qaa b1 ?_|refine qad hS (by kernel_rfl) ?_);conv => whnf)
   refine qdg gt ?_
   conv => whnf
   have e5:(lks (ltJ J job.toNat (minI 60 (IntKind.i64.wrap ((gL J job.toNat).2.2 + more))))).length = (k + 1) * 3 :=by unfold ltJ;rw [lks_len,List.length_set,hk]
   have hz:∀ j,j < (lks (ltJ J job.toNat (minI 60 (IntKind.i64.wrap ((gL J job.toNat).2.2 + more))))).length → (tset (pathOf (0 + job.toNat * 3 + 2)) t (iv (minI 60 (IntKind.i64.wrap ((gL J job.toNat).2.2 + more))))).get j = (lks (ltJ J job.toNat (minI 60 (IntKind.i64.wrap ((gL J job.toNat).2.2 + more)))))[j]? :=fun j _ => by
    unfold ltJ
    rw [qbq gt,qm6 J _ (by omega),Nat.zero_add,ht]
   refine ⟨rfl,rfl,rfl,rfl,rfl,rfl,?_⟩
   repeat' (first|exact trivial|exact ⟨_,rfl,FzV.slcL rfl (Nat.le_of_eq e5) hz (qau _) (by unfold ltJ;rw [List.length_set];omega),lkA_no _⟩ | (refine ⟨_,rfl,FzV.no ?_,?_⟩ <;> exact (by repeat' (first|exact trivial|assumption|exact qau _|exact (fun _ h => nomatch h)|apply And.intro)))|apply And.intro)
  conv => whnf
  have lV:Lives noL (lks (mrW W worker.toNat (minI 3 (IntKind.i64.wrap ((gL W worker.toNat).1 + more))) (a,b,c))) :=qau _
  have lK:Lives noL (lks (ltJ J job.toNat (minI 60 (IntKind.i64.wrap ((gL J job.toNat).2.2 + more))))) :=qau _
  have wv :=(hW.2 worker.toNat hwn).1
  have wj :=(hJ.2 job.toNat hjn).2.2
  have v1:(gL W worker.toNat).1 ≤ minI 3 (IntKind.i64.wrap ((gL W worker.toNat).1 + more)) :=by
   rw [show IntKind.i64.wrap ((gL W worker.toNat).1 + more) = (gL W worker.toNat).1 + more from qdp (by omega) (by omega)]
   unfold minI
   split <;> omega
  have v2:(gL J job.toNat).2.2 ≤ minI 60 (IntKind.i64.wrap ((gL J job.toNat).2.2 + more)) :=by
   rw [show IntKind.i64.wrap ((gL J job.toNat).2.2 + more) = (gL J job.toNat).2.2 + more from qdp (by omega) (by omega)]
   unfold minI
   split <;> omega
  have mW:MoreW W (mrW W worker.toNat (minI 3 (IntKind.i64.wrap ((gL W worker.toNat).1 + more))) (a,b,c)) :=qow hwn v1
  have mJ:LateJ J (ltJ J job.toNat (minI 60 (IntKind.i64.wrap ((gL J job.toNat).2.2 + more)))) :=qo1 hjn v2
  have lv:((mrW W worker.toNat (minI 3 (IntKind.i64.wrap ((gL W worker.toNat).1 + more))) (a,b,c))).length ≤ 5 :=by
   unfold mrW
   split
   ·rw [List.length_append,List.length_set];show W.length + 1 ≤ 5;omega
   ·rw [List.length_set];omega
  have lk:((ltJ J job.toNat (minI 60 (IntKind.i64.wrap ((gL J job.toNat).2.2 + more))))).length ≤ 8 :=by rw [mJ.len];omega
  have pS2 :=qe3 (x :=lkA (mrW W worker.toNat (minI 3 (IntKind.i64.wrap ((gL W worker.toNat).1 + more))) (a,b,c))) (y :=lkA (ltJ J job.toNat (minI 60 (IntKind.i64.wrap ((gL J job.toNat).2.2 + more))))) (.inr rfl) (.inr rfl) lv lk
  have pA :=qe2 hW hJ
  by_cases s2:areW (mrW W worker.toNat (minI 3 (IntKind.i64.wrap ((gL W worker.toNat).1 + more))) (a,b,c)) ∧ areJ (ltJ J job.toNat (minI 60 (IntKind.i64.wrap ((gL J job.toNat).2.2 + more))))
  rotate_left
  ·have c2:(!decide (areW (mrW W worker.toNat (minI 3 (IntKind.i64.wrap ((gL W worker.toNat).1 + more))) (a,b,c)) ∧ areJ (ltJ J job.toNat (minI 60 (IntKind.i64.wrap ((gL J job.toNat).2.2 + more)))))) = true :=nt_f (decide_eq_false s2)
   refine qaz hE hS ?_
   conv => whnf
   repeat ((first|refine qai c2 ?_|refine qah c2 ?_|refine pkT c2 ?_|refine qaa c2 ?_|refine qab hC (pS2) ?_|refine qab hC (known) ?_|refine qad hS (by kernel_rfl) ?_);conv => whnf)
   exact ⟨_,rfl,Wk.refl _⟩
  have c2:(!decide (areW (mrW W worker.toNat (minI 3 (IntKind.i64.wrap ((gL W worker.toNat).1 + more))) (a,b,c)) ∧ areJ (ltJ J job.toNat (minI 60 (IntKind.i64.wrap ((gL J job.toNat).2.2 + more)))))) = false :=nt_t (decide_eq_true s2)
  have pB :=qe2 s2.1 s2.2
  have hm2 :=fun p (h:qdm W J = some p) => qla mW mJ h
  cases hb:qdm W J with
  |none =>
   rw [hb] at pA
   cases hb2:qdm (mrW W worker.toNat (minI 3 (IntKind.i64.wrap ((gL W worker.toNat).1 + more))) (a,b,c)) (ltJ J job.toNat (minI 60 (IntKind.i64.wrap ((gL J job.toNat).2.2 + more)))) with
   |none =>
    rw [hb2] at pB
    refine qaz hE hS ?_
    conv => whnf
    repeat ((first|refine qao c2 ?_|refine qap c2 ?_|refine pkF c2 ?_|refine qac c2 ?_|refine qab hC (pS2) ?_|refine qab hC (known) ?_|refine qab hC (pA) ?_|refine qab hC (pB) ?_|refine qad hS (by kernel_rfl) ?_);conv => whnf)
    exact ⟨_,rfl,Wk.refl _⟩
   |some q =>
    have lq :=qal q.1
    rw [hb2] at pB
    refine qaz hE hS ?_
    conv => whnf
    repeat ((first|refine qao c2 ?_|refine qap c2 ?_|refine pkF c2 ?_|refine qac c2 ?_|refine qab hC (pS2) ?_|refine qab hC (known) ?_|refine qab hC (pA) ?_|refine qab hC (pB) ?_|refine qad hS (by kernel_rfl) ?_);conv => whnf)
    exact ⟨_,rfl,Wk.refl _⟩
  |some p =>
   have lp :=qal p.1
   rw [hb] at pA
   obtain ⟨q,hb2,hle⟩ :=hm2 p hb
   rw [hb2] at pB
   have lq :=qal q.1
   have c3:decide (q.2 ≤ p.2) = true :=decide_eq_true hle
   refine qaz hE hS ?_
   conv => whnf
   repeat ((first|refine qao c2 ?_|refine qap c2 ?_|refine pkF c2 ?_|refine qac c2 ?_|refine qai c3 ?_|refine qah c3 ?_|refine pkT c3 ?_|refine qaa c3 ?_|refine qai (qaj c3) ?_|refine qah (qaj c3) ?_|refine pkT (qaj c3) ?_|refine qaa (qaj c3) ?_|refine qab hC (pS2) ?_|refine qab hC (known) ?_|refine qab hC (pA) ?_|refine qab hC (pB) ?_|refine qad hS (by kernel_rfl) ?_);conv => whnf)
   exact ⟨_,rfl,Wk.refl _⟩
end
end Go.Abs.Seat
