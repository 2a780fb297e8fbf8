/-
  The law ShopLess.
-/
import Derived.Test.YtlmadgdonalncaaGreatDoorU19
import Derived.Test.YtlmadgdonalncaaGreatDoorU20
import Derived.Test.YtlmadgdonalncaaGreatDoorU5
namespace Go.Abs.Seat
noncomputable section
open Go Go.Abs Go.Proofs.Tryz
set_option maxRecDepth 100000
set_option maxHeartbeats 40000000
attribute [local irreducible] IntKind.wrap pEq
def muL:Option Tmp → TypeId → Bool :=fun d t => match d with
 |some 154 => t == 40 || t == 1000000 + 40
 |some 173 => t == 40
 |some 175 => t == 41
 | _ => false
def shC (long saw longer thinner:Int) (T:List Int):Prop :=(swOk long saw ∧ wlOk T) ∧ (0 ≤ longer ∧ longer ≤ 500 - long) ∧ 0 ≤ thinner ∧ thinner ≤ saw
theorem qwg {X:List LkI} {i j:Nat} {x:LkI} (h:i < X.length):gL (X.set i x) j = if j = i then x else gL X j :=by
 unfold gL
 simp only [List.getD,List.getElem?_set]
 by_cases e:j = i
 ·subst e;rw [if_pos rfl,if_pos rfl,if_pos h];rfl
 ·rw [if_neg (fun z => e z.symm),if_neg e]
theorem qzp {X Y:List LkI} {j:Nat} (h:j < X.length):gL (X ++ Y) j = gL X j :=by
 unfold gL
 simp only [List.getD]
 rw [List.getElem?_append_left h]
def mrW (W:List LkI) (n:Nat) (v:Int) (last:LkI):List LkI :=if W.length < 3 then W.set n (v,(gL W n).2.1,(gL W n).2.2) ++ [last] else W.set n (v,(gL W n).2.1,(gL W n).2.2)
def ltJ (J:List LkI) (n:Nat) (v:Int):List LkI :=J.set n ((gL J n).1,(gL J n).2.1,v)
theorem qow {W:List LkI} {n:Nat} {v:Int} {last:LkI} (hn:n < W.length) (hv:(gL W n).1 ≤ v):MoreW W (mrW W n v last) :=by
 have key:∀ j,j < W.length → gL (mrW W n v last) j = gL (W.set n (v,(gL W n).2.1,(gL W n).2.2)) j :=fun j hj => by
  unfold mrW
  split
  ·exact qzp (by rw [List.length_set];exact hj)
  ·rfl
 refine ⟨?_,fun j hj => ?_⟩
 ·unfold mrW
  split
  ·rw [List.length_append,List.length_set];exact Nat.le_add_right _ _
  ·rw [List.length_set];exact Nat.le_refl _
 ·rw [key j hj,qwg hn]
  by_cases e:j = n
  ·subst e;rw [if_pos rfl];exact ⟨hv,rfl,rfl⟩
  ·rw [if_neg e];exact ⟨Int.le_refl _,rfl,rfl⟩
theorem qo1 {J:List LkI} {n:Nat} {v:Int} (hn:n < J.length) (hv:(gL J n).2.2 ≤ v):LateJ J (ltJ J n v) :=by
 unfold ltJ
 refine ⟨List.length_set,fun j hj => ?_⟩
 rw [qwg hn]
 by_cases e:j = n
 ·subst e;rw [if_pos rfl];exact ⟨rfl,rfl,hv⟩
 ·rw [if_neg e];exact ⟨rfl,rfl,Int.le_refl _⟩
theorem qoz:∀ (X:List LkI) {i:Nat} (c:Int),i < X.length → ∀ j,(lks (X.set i (c,(gL X i).2.1,(gL X i).2.2)))[j]? = if j = i * 3 then some (iv c) else (lks X)[j]?
 | [],_,_,h,_ => absurd h (Nat.not_lt_zero _)
 |x :: r,0,c,_,j => by
  rcases j with _ | _ | _ | j
  ·rfl
  ·rfl
  ·rfl
  ·rw [if_neg (by omega)];rfl
 |x :: r,i + 1,c,h,j => by
  have ih :=qoz r (i :=i) c (Nat.lt_of_succ_lt_succ h)
  rcases j with _ | _ | _ | j
  ·rw [if_neg (by omega)];rfl
  ·rw [if_neg (by omega)];rfl
  ·rw [if_neg (by omega)];rfl
  ·have h1:(lks ((x :: r).set (i + 1) (c,(gL (x :: r) (i + 1)).2.1,(gL (x :: r) (i + 1)).2.2)))[j + 3]? = (lks (r.set i (c,(gL r i).2.1,(gL r i).2.2)))[j]? :=rfl
   have h2:(lks (x :: r))[j + 3]? = (lks r)[j]? :=rfl
   rw [h1,h2,ih]
   by_cases e:j = i * 3
   ·rw [if_pos e,if_pos (by omega)]
   ·rw [if_neg e,if_neg (by omega)]
theorem qio {long saw longer thinner:Int} {T:List Int} (h:shC long saw longer thinner T):∃ o o':Option (List Nat),Pure prog 40 [iv long,iv saw,nl T] (stV o) ∧ Pure prog 40 [iv (IntKind.i64.wrap (long + longer)),iv (IntKind.i64.wrap (saw - thinner)),nl T] (stV o') ∧ ∀ l,o = some l → ∃ l',o' = some l' ∧ mnA 0 l' ≤ mnA 0 l :=by
 obtain ⟨⟨h1,h2⟩,⟨h3,h4⟩,h5,h6⟩ :=h
 obtain ⟨n,s,t,pq⟩ :=q0h h1 h2
 obtain ⟨n',hn⟩ : ∃ n',long + longer = Int.ofNat n' :=⟨(long + longer).toNat,(Int.toNat_of_nonneg (by have :=h1.1;omega)).symm⟩
 obtain ⟨s',hs⟩ : ∃ s',saw - thinner = Int.ofNat s' :=⟨(saw - thinner).toNat,(Int.toNat_of_nonneg (by omega)).symm⟩
 have hq :=pq.q1
 have ha :=pq.a
 have hb :=pq.b
 have q1:swOk (Int.ofNat n') (Int.ofNat s') :=by
  rw [← hn,← hs]
  have :=h1.1
  have :=h1.2
  exact ⟨⟨by omega,by omega⟩,by omega,by omega⟩
 refine ⟨qgb n s t,qgb n' s' t,?_,?_,fun l hl => ?_⟩
 ·rw [pq.a,pq.b,pq.c]
  exact qgu pq.q1 pq.q2 pq.l1 pq.ht
 ·rw [show IntKind.i64.wrap (long + longer) = long + longer from qdp (by have :=h1.1;omega) (by have :=h1.1;omega),show IntKind.i64.wrap (saw - thinner) = saw - thinner from qdp (by have :=h1.2;omega) (by have :=h1.2;omega),hn,hs,pq.c]
  exact qgu q1 pq.q2 pq.l1 pq.ht
 ·simp only [Int.ofNat_eq_natCast] at ha hb hn hs
  exact qtt (fun x hx => (pq.ht x hx).1) pq.l1 (by omega) (by omega) hl
theorem get3 {t:Tr AV} {x y z:AV} (h0:t.get 0 = some x) (h1:t.get 1 = some y) (h2:t.get 2 = some z):∀ j,j < 3 → t.get j = [x,y,z][j]? :=fun j hj => by
 have:j = 0 ∨ j = 1 ∨ j = 2 :=by omega
 rcases this with rfl | rfl | rfl
 ·exact h0
 ·exact h1
 ·exact h2
theorem qx5 (known:Pure prog 13 [] (.bool true)) (long saw:Int) {x y z:AV} {T:List Int} {W J:List LkI} (hx:IL x T) (longer thinner:Int) (hy:LL y W) (hz:LL z J) (job worker more a b c:Int):Pure prog 9 [iv long,iv saw,x,iv longer,iv thinner,y,z,iv job,iv worker,iv more,.agg [iv a,iv b,iv c]] (.bool true) ∨ (T.length ≤ 10 ∧ fewP W J [] ∧ areW W ∧ areJ J) :=by
 have lx :=hx.no
 have ly :=hy.no
 have lz :=hz.no
 by_cases full:T.length ≤ 10 ∧ fewP W J [] ∧ areW W ∧ areJ J
 ·exact .inr full
 left
 by_cases s10:T.length ≤ 10
 rotate_left
 ·have pL :=qy4 hx (y :=.nils) (D :=[]) (.inl ⟨rfl,rfl⟩) fun k => s10 k.1
  rcases hx with ⟨rfl,_⟩ | rfl <;> rcases hy with ⟨rfl,_⟩ | rfl <;> rcases hz with ⟨rfl,_⟩ | rfl
  all_goals
   refine qas hE rfl (by repeat' first|exact trivial|assumption|exact qag _|exact fun _ h => nomatch h|apply And.intro) (by repeat' first|exact trivial|assumption|exact qag _|exact fun _ h => nomatch h|apply And.intro) fun S q pc hS hq hC hE => ?_
   conv => whnf
   repeat ((first|refine qab hC (pL) ?_|refine qab hC (known) ?_|refine qad hS (by kernel_rfl) ?_);conv => whnf)
   exact ⟨_,rfl,Wk.refl _⟩
 have pL :=qq9 hx (y :=.nils) (D :=[]) (.inl ⟨rfl,rfl⟩) s10 (Nat.zero_le _)
 have pF :=qlm hy hz (h :=.nils) (P :=[]) (.inl ⟨rfl,rfl⟩)
 by_cases f:fewP W J []
 rotate_left
 ·have cf:(!decide (fewP W J [])) = true :=nt_f (decide_eq_false f)
  rcases hx with ⟨rfl,_⟩ | rfl <;> rcases hy with ⟨rfl,_⟩ | rfl <;> rcases hz with ⟨rfl,_⟩ | rfl
  all_goals
   refine qas hE rfl (by repeat' first|exact trivial|assumption|exact qag _|exact fun _ h => nomatch h|apply And.intro) (by repeat' first|exact trivial|assumption|exact qag _|exact fun _ h => nomatch h|apply And.intro) fun S q pc hS hq hC hE => ?_
   conv => whnf
   repeat ((first|refine qai cf ?_|refine qah cf ?_|refine pkT cf ?_|refine qaa cf ?_|refine qao (gft cf) ?_|refine qap (gft cf) ?_|refine pkF (gft cf) ?_|refine qac (gft cf) ?_|refine qab hC (pL) ?_|refine qab hC (pF) ?_|refine qab hC (known) ?_|refine qad hS (by kernel_rfl) ?_);conv => whnf)
   exact ⟨_,rfl,Wk.refl _⟩
 have cf:(!decide (fewP W J [])) = false :=nt_t (decide_eq_true f)
 have pS :=qe3 hy hz f.1 f.2.1
 have r1 :=qht long saw
 have r2 :=qgv hx s10
 have s:¬ (areW W ∧ areJ J) :=fun k => full ⟨s10,f,k⟩
 ·have cs:(!decide (areW W ∧ areJ J)) = true :=nt_f (decide_eq_false s)
  rcases hx with ⟨rfl,hT⟩ | rfl
  ·rcases hy with ⟨rfl,_⟩ | rfl <;> rcases hz with ⟨rfl,_⟩ | rfl
   all_goals
    refine qft (hEM muL) rfl (by repeat' first|exact trivial|assumption|exact qag _|exact fun _ h => nomatch h|apply And.intro) (by repeat' first|exact trivial|assumption|exact qag _|exact fun _ h => nomatch h|apply And.intro) fun S q pc hS hq hC hE => ?_
    conv => whnf
    refine qd0 hS (zs :=[_]) [0,1,2,3,4,5,6,7,8,9] [(21,.lptr [iv a,iv b,iv c] 0),(22,.bool false)] (fun i => by rw [qc8]) ?_ ?_
    ·conv => whnf
     refine qaz hE hS ?_
     conv => whnf
     refine ⟨rfl,rfl,rfl,rfl,rfl,rfl,?_⟩
     repeat' (first|exact trivial|exact ⟨_,rfl,FzV.ptr (n :=3) rfl rfl (get3 rfl rfl rfl) ⟨trivial,trivial,trivial,trivial⟩,⟨trivial,trivial,trivial,trivial⟩⟩ | (refine ⟨_,rfl,FzV.no ?_,?_⟩ <;> exact (by repeat' first|exact trivial|assumption|exact qag _|exact fun _ h => nomatch h|apply And.intro))|apply And.intro)
    conv => whnf
    refine qdv (E :=EM muL q pc) hS (qaz hE hS ?_)
    conv => whnf
    repeat ((first|refine qao cf ?_|refine qap cf ?_|refine pkF cf ?_|refine qac cf ?_|refine qai (gff cf) ?_|refine qah (gff cf) ?_|refine pkT (gff cf) ?_|refine qaa (gff cf) ?_|refine qab hC (pL) ?_|refine qab hC (pF) ?_|refine qad hS (by kernel_rfl) ?_);conv => whnf)
    refine qe0 (E :=EM muL q pc) hS (A :=Unit) [5,6,7,8,9,21,22] (fun _ => []) (fun _ => []) (fun _ => []) (fun _ => True) (Nat.le_refl _) ?_ ?_
    ·refine qaz hE hS ?_
     conv => whnf
     by_cases c1:swOk long saw
     rotate_left
     ·rw [decide_eq_false c1] at r1
      repeat ((first|refine qab hC (r1) ?_|refine qad hS (by kernel_rfl) ?_);conv => whnf)
      exact ⟨(),trivial,(by refine ⟨rfl,rfl,rfl,rfl,rfl,rfl,0,rfl,?_,?_⟩ <;> repeat' (first|exact trivial|exact rfl|exact ⟨_,rfl,WkV.refl _⟩|exact ⟨_,rfl,WkV.own _ _ _⟩|exact Nat.zero_le _|exact qae (qau _)|exact qae (qal _)|exact kle rfl|exact qae (by assumption)|exact qae (qag _)|exact qae (qal _)|exact qae (qa0 _)|exact mxI rfl|exact mxS rfl|apply And.intro))⟩
     rw [decide_eq_true c1] at r1
     by_cases c2:wlOk T
     rotate_left
     ·rw [decide_eq_false c2] at r2
      repeat ((first|refine qab hC (r1) ?_|refine qab hC (r2) ?_|refine qad hS (by kernel_rfl) ?_);conv => whnf)
      exact ⟨(),trivial,(by refine ⟨rfl,rfl,rfl,rfl,rfl,rfl,0,rfl,?_,?_⟩ <;> repeat' (first|exact trivial|exact rfl|exact ⟨_,rfl,WkV.refl _⟩|exact ⟨_,rfl,WkV.own _ _ _⟩|exact Nat.zero_le _|exact qae (qau _)|exact qae (qal _)|exact kle rfl|exact qae (by assumption)|exact qae (qag _)|exact qae (qal _)|exact qae (qa0 _)|exact mxI rfl|exact mxS rfl|apply And.intro))⟩
     rw [decide_eq_true c2] at r2
     by_cases c3:0 ≤ longer
     rotate_left
     ·have f3:decide (longer ≥ 0) = false :=decide_eq_false c3
      repeat ((first|refine qao f3 ?_|refine qap f3 ?_|refine pkF f3 ?_|refine qac f3 ?_|refine qao (qay f3) ?_|refine qap (qay f3) ?_|refine pkF (qay f3) ?_|refine qac (qay f3) ?_|refine qab hC (r1) ?_|refine qab hC (r2) ?_|refine qad hS (by kernel_rfl) ?_);conv => whnf)
      exact ⟨(),trivial,(by refine ⟨rfl,rfl,rfl,rfl,rfl,rfl,0,rfl,?_,?_⟩ <;> repeat' (first|exact trivial|exact rfl|exact ⟨_,rfl,WkV.refl _⟩|exact ⟨_,rfl,WkV.own _ _ _⟩|exact Nat.zero_le _|exact qae (qau _)|exact qae (qal _)|exact kle rfl|exact qae (by assumption)|exact qae (qag _)|exact qae (qal _)|exact qae (qa0 _)|exact mxI rfl|exact mxS rfl|apply And.intro))⟩
     have t3:decide (longer ≥ 0) = true :=decide_eq_true c3
     have w4:IntKind.i64.wrap (500 - long) = 500 - long :=qdp (by have :=c1.1;omega) (by have :=c1.1;omega)
     by_cases c4:longer ≤ 500 - long
     rotate_left
     ·have f4:decide (longer ≤ IntKind.i64.wrap (500 - long)) = false :=decide_eq_false (by rw [w4];exact c4)
      repeat ((first|refine qai t3 ?_|refine qah t3 ?_|refine pkT t3 ?_|refine qaa t3 ?_|refine qai (qaj t3) ?_|refine qah (qaj t3) ?_|refine pkT (qaj t3) ?_|refine qaa (qaj t3) ?_|refine qao f4 ?_|refine qap f4 ?_|refine pkF f4 ?_|refine qac f4 ?_|refine qao (qay f4) ?_|refine qap (qay f4) ?_|refine pkF (qay f4) ?_|refine qac (qay f4) ?_|refine qab hC (r1) ?_|refine qab hC (r2) ?_|refine qad hS (by kernel_rfl) ?_);conv => whnf)
      exact ⟨(),trivial,(by refine ⟨rfl,rfl,rfl,rfl,rfl,rfl,0,rfl,?_,?_⟩ <;> repeat' (first|exact trivial|exact rfl|exact ⟨_,rfl,WkV.refl _⟩|exact ⟨_,rfl,WkV.own _ _ _⟩|exact Nat.zero_le _|exact qae (qau _)|exact qae (qal _)|exact kle rfl|exact qae (by assumption)|exact qae (qag _)|exact qae (qal _)|exact qae (qa0 _)|exact mxI rfl|exact mxS rfl|apply And.intro))⟩
     have t4:decide (longer ≤ IntKind.i64.wrap (500 - long)) = true :=decide_eq_true (by rw [w4];exact c4)
     by_cases c5:0 ≤ thinner
     rotate_left
     ·have f5:decide (thinner ≥ 0) = false :=decide_eq_false c5
      repeat ((first|refine qai t3 ?_|refine qah t3 ?_|refine pkT t3 ?_|refine qaa t3 ?_|refine qai (qaj t3) ?_|refine qah (qaj t3) ?_|refine pkT (qaj t3) ?_|refine qaa (qaj t3) ?_|refine qai t4 ?_|refine qah t4 ?_|refine pkT t4 ?_|refine qaa t4 ?_|refine qai (qaj t4) ?_|refine qah (qaj t4) ?_|refine pkT (qaj t4) ?_|refine qaa (qaj t4) ?_|refine qao f5 ?_|refine qap f5 ?_|refine pkF f5 ?_|refine qac f5 ?_|refine qao (qay f5) ?_|refine qap (qay f5) ?_|refine pkF (qay f5) ?_|refine qac (qay f5) ?_|refine qab hC (r1) ?_|refine qab hC (r2) ?_|refine qad hS (by kernel_rfl) ?_);conv => whnf)
      exact ⟨(),trivial,(by refine ⟨rfl,rfl,rfl,rfl,rfl,rfl,0,rfl,?_,?_⟩ <;> repeat' (first|exact trivial|exact rfl|exact ⟨_,rfl,WkV.refl _⟩|exact ⟨_,rfl,WkV.own _ _ _⟩|exact Nat.zero_le _|exact qae (qau _)|exact qae (qal _)|exact kle rfl|exact qae (by assumption)|exact qae (qag _)|exact qae (qal _)|exact qae (qa0 _)|exact mxI rfl|exact mxS rfl|apply And.intro))⟩
     have t5:decide (thinner ≥ 0) = true :=decide_eq_true c5
     by_cases c6:thinner ≤ saw
     rotate_left
     ·have f6:decide (thinner ≤ saw) = false :=decide_eq_false c6
      repeat ((first|refine qai t3 ?_|refine qah t3 ?_|refine pkT t3 ?_|refine qaa t3 ?_|refine qai (qaj t3) ?_|refine qah (qaj t3) ?_|refine pkT (qaj t3) ?_|refine qaa (qaj t3) ?_|refine qai t4 ?_|refine qah t4 ?_|refine pkT t4 ?_|refine qaa t4 ?_|refine qai (qaj t4) ?_|refine qah (qaj t4) ?_|refine pkT (qaj t4) ?_|refine qaa (qaj t4) ?_|refine qai t5 ?_|refine qah t5 ?_|refine pkT t5 ?_|refine qaa t5 ?_|refine qai (qaj t5) ?_|refine qah (qaj t5) ?_|refine pkT (qaj t5) ?_|refine qaa (qaj t5) ?_|refine qao f6 ?_|refine qap f6 ?_|refine pkF f6 ?_|refine qac f6 ?_|refine qao (qay f6) ?_|refine qap (qay f6) ?_|refine pkF (qay f6) ?_|refine qac (qay f6) ?_|refine qab hC (r1) ?_|refine qab hC (r2) ?_|refine qad hS (by kernel_rfl) ?_);conv => whnf)
      exact ⟨(),trivial,(by refine ⟨rfl,rfl,rfl,rfl,rfl,rfl,0,rfl,?_,?_⟩ <;> repeat' (first|exact trivial|exact rfl|exact ⟨_,rfl,WkV.refl _⟩|exact ⟨_,rfl,WkV.own _ _ _⟩|exact Nat.zero_le _|exact qae (qau _)|exact qae (qal _)|exact kle rfl|exact qae (by assumption)|exact qae (qag _)|exact qae (qal _)|exact qae (qa0 _)|exact mxI rfl|exact mxS rfl|apply And.intro))⟩
     have t6:decide (thinner ≤ saw) = true :=decide_eq_true c6
     exact absurd c2.2.1 (by rw [hT];decide)
    intro _ _ N hN
    obtain rfl:N = 0 :=hN
    conv => whnf
    refine qdv (E :=EM muL q pc) hS (qaz hE hS ?_)
    conv => whnf
    repeat ((first|refine qai cs ?_|refine qah cs ?_|refine pkT cs ?_|refine qaa cs ?_|refine qao (gft cs) ?_|refine qap (gft cs) ?_|refine pkF (gft cs) ?_|refine qac (gft cs) ?_|refine qab hC (pS) ?_|refine qab hC (known) ?_|refine qad hS (by kernel_rfl) ?_);conv => whnf)
    exact ⟨_,rfl,Wk.refl _⟩
  ·rcases hy with ⟨rfl,_⟩ | rfl <;> rcases hz with ⟨rfl,_⟩ | rfl
   all_goals
    refine qft (hEM muL) rfl (by repeat' first|exact trivial|assumption|exact qag _|exact fun _ h => nomatch h|apply And.intro) (by repeat' first|exact trivial|assumption|exact qag _|exact fun _ h => nomatch h|apply And.intro) fun S q pc hS hq hC hE => ?_
    conv => whnf
    refine qd0 hS (zs :=[_]) [0,1,2,3,4,5,6,7,8,9] [(21,.lptr [iv a,iv b,iv c] 0),(22,.bool false)] (fun i => by rw [qc8]) ?_ ?_
    ·conv => whnf
     refine qaz hE hS ?_
     conv => whnf
     refine ⟨rfl,rfl,rfl,rfl,rfl,rfl,?_⟩
     repeat' (first|exact trivial|exact ⟨_,rfl,FzV.ptr (n :=3) rfl rfl (get3 rfl rfl rfl) ⟨trivial,trivial,trivial,trivial⟩,⟨trivial,trivial,trivial,trivial⟩⟩ | (refine ⟨_,rfl,FzV.no ?_,?_⟩ <;> exact (by repeat' first|exact trivial|assumption|exact qag _|exact fun _ h => nomatch h|apply And.intro))|apply And.intro)
    conv => whnf
    refine qdv (E :=EM muL q pc) hS (qaz hE hS ?_)
    conv => whnf
    repeat ((first|refine qao cf ?_|refine qap cf ?_|refine pkF cf ?_|refine qac cf ?_|refine qai (gff cf) ?_|refine qah (gff cf) ?_|refine pkT (gff cf) ?_|refine qaa (gff cf) ?_|refine qab hC (pL) ?_|refine qab hC (pF) ?_|refine qad hS (by kernel_rfl) ?_);conv => whnf)
    refine qe0 (E :=EM muL q pc) hS (A :=Unit) [5,6,7,8,9,21,22] (fun _ => []) (fun _ => []) (fun _ => []) (fun _ => True) (Nat.le_refl _) ?_ ?_
    ·refine qaz hE hS ?_
     conv => whnf
     by_cases c1:swOk long saw
     rotate_left
     ·rw [decide_eq_false c1] at r1
      repeat ((first|refine qab hC (r1) ?_|refine qad hS (by kernel_rfl) ?_);conv => whnf)
      exact ⟨(),trivial,(by refine ⟨rfl,rfl,rfl,rfl,rfl,rfl,0,rfl,?_,?_⟩ <;> repeat' (first|exact trivial|exact rfl|exact ⟨_,rfl,WkV.refl _⟩|exact ⟨_,rfl,WkV.own _ _ _⟩|exact Nat.zero_le _|exact qae (qau _)|exact qae (qal _)|exact kle rfl|exact qae (by assumption)|exact qae (qag _)|exact qae (qal _)|exact qae (qa0 _)|exact mxI rfl|exact mxS rfl|apply And.intro))⟩
     rw [decide_eq_true c1] at r1
     by_cases c2:wlOk T
     rotate_left
     ·rw [decide_eq_false c2] at r2
      repeat ((first|refine qab hC (r1) ?_|refine qab hC (r2) ?_|refine qad hS (by kernel_rfl) ?_);conv => whnf)
      exact ⟨(),trivial,(by refine ⟨rfl,rfl,rfl,rfl,rfl,rfl,0,rfl,?_,?_⟩ <;> repeat' (first|exact trivial|exact rfl|exact ⟨_,rfl,WkV.refl _⟩|exact ⟨_,rfl,WkV.own _ _ _⟩|exact Nat.zero_le _|exact qae (qau _)|exact qae (qal _)|exact kle rfl|exact qae (by assumption)|exact qae (qag _)|exact qae (qal _)|exact qae (qa0 _)|exact mxI rfl|exact mxS rfl|apply And.intro))⟩
     rw [decide_eq_true c2] at r2
     by_cases c3:0 ≤ longer
     rotate_left
     ·have f3:decide (longer ≥ 0) = false :=decide_eq_false c3
      repeat ((first|refine qao f3 ?_|refine qap f3 ?_|refine pkF f3 ?_|refine qac f3 ?_|refine qao (qay f3) ?_|refine qap (qay f3) ?_|refine pkF (qay f3) ?_|refine qac (qay f3) ?_|refine qab hC (r1) ?_|refine qab hC (r2) ?_|refine qad hS (by kernel_rfl) ?_);conv => whnf)
      exact ⟨(),trivial,(by refine ⟨rfl,rfl,rfl,rfl,rfl,rfl,0,rfl,?_,?_⟩ <;> repeat' (first|exact trivial|exact rfl|exact ⟨_,rfl,WkV.refl _⟩|exact ⟨_,rfl,WkV.own _ _ _⟩|exact Nat.zero_le _|exact qae (qau _)|exact qae (qal _)|exact kle rfl|exact qae (by assumption)|exact qae (qag _)|exact qae (qal _)|exact qae (qa0 _)|exact mxI rfl|exact mxS rfl|apply And.intro))⟩
     have t3:decide (longer ≥ 0) = true :=decide_eq_true c3
     have w4:IntKind.i64.wrap (500 - long) = 500 - long :=qdp (by have :=c1.1;omega) (by have :=c1.1;omega)
     by_cases c4:longer ≤ 500 - long
     rotate_left
     ·have f4:decide (longer ≤ IntKind.i64.wrap (500 - long)) = false :=decide_eq_false (by rw [w4];exact c4)
      repeat ((first|refine qai t3 ?_|refine qah t3 ?_|refine pkT t3 ?_|refine qaa t3 ?_|refine qai (qaj t3) ?_|refine qah (qaj t3) ?_|refine pkT (qaj t3) ?_|refine qaa (qaj t3) ?_|refine qao f4 ?_|refine qap f4 ?_|refine pkF f4 ?_|refine qac f4 ?_|refine qao (qay f4) ?_|refine qap (qay f4) ?_|refine pkF (qay f4) ?_|refine qac (qay f4) ?_|refine qab hC (r1) ?_|refine qab hC (r2) ?_|refine qad hS (by kernel_rfl) ?_);conv => whnf)
      exact ⟨(),trivial,(by refine ⟨rfl,rfl,rfl,rfl,rfl,rfl,0,rfl,?_,?_⟩ <;> repeat' (first|exact trivial|exact rfl|exact ⟨_,rfl,WkV.refl _⟩|exact ⟨_,rfl,WkV.own _ _ _⟩|exact Nat.zero_le _|exact qae (qau _)|exact qae (qal _)|exact kle rfl|exact qae (by assumption)|exact qae (qag _)|exact qae (qal _)|exact qae (qa0 _)|exact mxI rfl|exact mxS rfl|apply And.intro))⟩
     have t4:decide (longer ≤ IntKind.i64.wrap (500 - long)) = true :=decide_eq_true (by rw [w4];exact c4)
     by_cases c5:0 ≤ thinner
     rotate_left
     ·have f5:decide (thinner ≥ 0) = false :=decide_eq_false c5
      repeat ((first|refine qai t3 ?_|refine qah t3 ?_|refine pkT t3 ?_|refine qaa t3 ?_|refine qai (qaj t3) ?_|refine qah (qaj t3) ?_|refine pkT (qaj t3) ?_|refine qaa (qaj t3) ?_|refine qai t4 ?_|refine qah t4 ?_|refine pkT t4 ?_|refine qaa t4 ?_|refine qai (qaj t4) ?_|refine qah (qaj t4) ?_|refine pkT (qaj t4) ?_|refine qaa (qaj t4) ?_|refine qao f5 ?_|refine qap f5 ?_|refine pkF f5 ?_|refine qac f5 ?_|refine qao (qay f5) ?_|refine qap (qay f5) ?_|refine pkF (qay f5) ?_|refine qac (qay f5) ?_|refine qab hC (r1) ?_|refine qab hC (r2) ?_|refine qad hS (by kernel_rfl) ?_);conv => whnf)
      exact ⟨(),trivial,(by refine ⟨rfl,rfl,rfl,rfl,rfl,rfl,0,rfl,?_,?_⟩ <;> repeat' (first|exact trivial|exact rfl|exact ⟨_,rfl,WkV.refl _⟩|exact ⟨_,rfl,WkV.own _ _ _⟩|exact Nat.zero_le _|exact qae (qau _)|exact qae (qal _)|exact kle rfl|exact qae (by assumption)|exact qae (qag _)|exact qae (qal _)|exact qae (qa0 _)|exact mxI rfl|exact mxS rfl|apply And.intro))⟩
     have t5:decide (thinner ≥ 0) = true :=decide_eq_true c5
     by_cases c6:thinner ≤ saw
     rotate_left
     ·have f6:decide (thinner ≤ saw) = false :=decide_eq_false c6
      repeat ((first|refine qai t3 ?_|refine qah t3 ?_|refine pkT t3 ?_|refine qaa t3 ?_|refine qai (qaj t3) ?_|refine qah (qaj t3) ?_|refine pkT (qaj t3) ?_|refine qaa (qaj t3) ?_|refine qai t4 ?_|refine qah t4 ?_|refine pkT t4 ?_|refine qaa t4 ?_|refine qai (qaj t4) ?_|refine qah (qaj t4) ?_|refine pkT (qaj t4) ?_|refine qaa (qaj t4) ?_|refine qai t5 ?_|refine qah t5 ?_|refine pkT t5 ?_|refine qaa t5 ?_|refine qai (qaj t5) ?_|refine qah (qaj t5) ?_|refine pkT (qaj t5) ?_|refine qaa (qaj t5) ?_|refine qao f6 ?_|refine qap f6 ?_|refine pkF f6 ?_|refine qac f6 ?_|refine qao (qay f6) ?_|refine qap (qay f6) ?_|refine pkF (qay f6) ?_|refine qac (qay f6) ?_|refine qab hC (r1) ?_|refine qab hC (r2) ?_|refine qad hS (by kernel_rfl) ?_);conv => whnf)
      exact ⟨(),trivial,(by refine ⟨rfl,rfl,rfl,rfl,rfl,rfl,0,rfl,?_,?_⟩ <;> repeat' (first|exact trivial|exact rfl|exact ⟨_,rfl,WkV.refl _⟩|exact ⟨_,rfl,WkV.own _ _ _⟩|exact Nat.zero_le _|exact qae (qau _)|exact qae (qal _)|exact kle rfl|exact qae (by assumption)|exact qae (qag _)|exact qae (qal _)|exact qae (qa0 _)|exact mxI rfl|exact mxS rfl|apply And.intro))⟩
     have t6:decide (thinner ≤ saw) = true :=decide_eq_true c6
     obtain ⟨o,o',p1,p2,ho⟩ :=qio (T :=T) ⟨⟨c1,c2⟩,⟨c3,c4⟩,c5,c6⟩
     cases o with
     |none =>
      cases o' with
      |none =>
       repeat ((first|refine qai t3 ?_|refine qah t3 ?_|refine pkT t3 ?_|refine qaa t3 ?_|refine qai (qaj t3) ?_|refine qah (qaj t3) ?_|refine pkT (qaj t3) ?_|refine qaa (qaj t3) ?_|refine qai t4 ?_|refine qah t4 ?_|refine pkT t4 ?_|refine qaa t4 ?_|refine qai (qaj t4) ?_|refine qah (qaj t4) ?_|refine pkT (qaj t4) ?_|refine qaa (qaj t4) ?_|refine qai t5 ?_|refine qah t5 ?_|refine pkT t5 ?_|refine qaa t5 ?_|refine qai (qaj t5) ?_|refine qah (qaj t5) ?_|refine pkT (qaj t5) ?_|refine qaa (qaj t5) ?_|refine qai t6 ?_|refine qah t6 ?_|refine pkT t6 ?_|refine qaa t6 ?_|refine qai (qaj t6) ?_|refine qah (qaj t6) ?_|refine pkT (qaj t6) ?_|refine qaa (qaj t6) ?_|refine qab hC (r1) ?_|refine qab hC (r2) ?_|refine qab hC (p1) ?_|refine qab hC (p2) ?_|refine qad hS (by kernel_rfl) ?_);conv => whnf)
       exact ⟨(),trivial,(by refine ⟨rfl,rfl,rfl,rfl,rfl,rfl,0,rfl,?_,?_⟩ <;> repeat' (first|exact trivial|exact rfl|exact ⟨_,rfl,WkV.refl _⟩|exact ⟨_,rfl,WkV.own _ _ _⟩|exact Nat.zero_le _|exact qae (qau _)|exact qae (qal _)|exact kle rfl|exact qae (by assumption)|exact qae (qag _)|exact qae (qal _)|exact qae (qa0 _)|exact mxI rfl|exact mxS rfl|apply And.intro))⟩
      |some l' =>
       have lL :=qal (zl l')
       repeat ((first|refine qai t3 ?_|refine qah t3 ?_|refine pkT t3 ?_|refine qaa t3 ?_|refine qai (qaj t3) ?_|refine qah (qaj t3) ?_|refine pkT (qaj t3) ?_|refine qaa (qaj t3) ?_|refine qai t4 ?_|refine qah t4 ?_|refine pkT t4 ?_|refine qaa t4 ?_|refine qai (qaj t4) ?_|refine qah (qaj t4) ?_|refine pkT (qaj t4) ?_|refine qaa (qaj t4) ?_|refine qai t5 ?_|refine qah t5 ?_|refine pkT t5 ?_|refine qaa t5 ?_|refine qai (qaj t5) ?_|refine qah (qaj t5) ?_|refine pkT (qaj t5) ?_|refine qaa (qaj t5) ?_|refine qai t6 ?_|refine qah t6 ?_|refine pkT t6 ?_|refine qaa t6 ?_|refine qai (qaj t6) ?_|refine qah (qaj t6) ?_|refine pkT (qaj t6) ?_|refine qaa (qaj t6) ?_|refine qab hC (r1) ?_|refine qab hC (r2) ?_|refine qab hC (p1) ?_|refine qab hC (p2) ?_|refine qad hS (by kernel_rfl) ?_);conv => whnf)
       exact ⟨(),trivial,(by refine ⟨rfl,rfl,rfl,rfl,rfl,rfl,0,rfl,?_,?_⟩ <;> repeat' (first|exact trivial|exact rfl|exact ⟨_,rfl,WkV.refl _⟩|exact ⟨_,rfl,WkV.own _ _ _⟩|exact Nat.zero_le _|exact qae (qau _)|exact qae (qal _)|exact kle rfl|exact qae (by assumption)|exact qae (qag _)|exact qae (qal _)|exact qae (qa0 _)|exact mxI rfl|exact mxS rfl|apply And.intro))⟩
     |some l =>
      obtain ⟨l',e',hle⟩ :=ho l rfl
      subst e'
      have lL :=qal (zl l')
      have lM :=qal (zl l)
      have t7:decide (Int.ofNat (mnA 0 l') > Int.ofNat (mnA 0 l)) = false :=decide_eq_false (Int.not_lt.2 (Int.ofNat_le.2 hle))
      repeat ((first|refine qai t3 ?_|refine qah t3 ?_|refine pkT t3 ?_|refine qaa t3 ?_|refine qai (qaj t3) ?_|refine qah (qaj t3) ?_|refine pkT (qaj t3) ?_|refine qaa (qaj t3) ?_|refine qai t4 ?_|refine qah t4 ?_|refine pkT t4 ?_|refine qaa t4 ?_|refine qai (qaj t4) ?_|refine qah (qaj t4) ?_|refine pkT (qaj t4) ?_|refine qaa (qaj t4) ?_|refine qai t5 ?_|refine qah t5 ?_|refine pkT t5 ?_|refine qaa t5 ?_|refine qai (qaj t5) ?_|refine qah (qaj t5) ?_|refine pkT (qaj t5) ?_|refine qaa (qaj t5) ?_|refine qai t6 ?_|refine qah t6 ?_|refine pkT t6 ?_|refine qaa t6 ?_|refine qai (qaj t6) ?_|refine qah (qaj t6) ?_|refine pkT (qaj t6) ?_|refine qaa (qaj t6) ?_|refine qao t7 ?_|refine qap t7 ?_|refine pkF t7 ?_|refine qac t7 ?_|refine qab hC (r1) ?_|refine qab hC (r2) ?_|refine qab hC (p1) ?_|refine qab hC (p2) ?_|refine qad hS (by kernel_rfl) ?_);conv => whnf)
      exact ⟨(),trivial,(by refine ⟨rfl,rfl,rfl,rfl,rfl,rfl,0,rfl,?_,?_⟩ <;> repeat' (first|exact trivial|exact rfl|exact ⟨_,rfl,WkV.refl _⟩|exact ⟨_,rfl,WkV.own _ _ _⟩|exact Nat.zero_le _|exact qae (qau _)|exact qae (qal _)|exact kle rfl|exact qae (by assumption)|exact qae (qag _)|exact qae (qal _)|exact qae (qa0 _)|exact mxI rfl|exact mxS rfl|apply And.intro))⟩
    intro _ _ N hN
    obtain rfl:N = 0 :=hN
    conv => whnf
    refine qdv (E :=EM muL q pc) hS (qaz hE hS ?_)
    conv => whnf
    repeat ((first|refine qai cs ?_|refine qah cs ?_|refine pkT cs ?_|refine qaa cs ?_|refine qao (gft cs) ?_|refine qap (gft cs) ?_|refine pkF (gft cs) ?_|refine qac (gft cs) ?_|refine qab hC (pS) ?_|refine qab hC (known) ?_|refine qad hS (by kernel_rfl) ?_);conv => whnf)
    exact ⟨_,rfl,Wk.refl _⟩
end
end Go.Abs.Seat
