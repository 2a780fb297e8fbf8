/-
  Plans: the law's own helpers.
-/
import Derived.Test.YtlmadgdonalncaaGreatDoorU11
import Derived.Test.YtlmadgdonalncaaGreatDoorB93
import Derived.Test.YtlmadgdonalncaaGreatDoorU10
import Derived.Test.YtlmadgdonalncaaGreatDoorU5
namespace Go.Abs.Seat
noncomputable section
open Go Go.Abs Go.Proofs.Tryz
set_option maxRecDepth 100000
set_option maxHeartbeats 40000000
attribute [local irreducible] IntKind.wrap pEq
def fewP (W J:List LkI) (P:List Int):Prop :=W.length ≤ 5 ∧ J.length ≤ 8 ∧ P.length ≤ 8
instance (W J:List LkI) (P:List Int):Decidable (fewP W J P) :=inferInstanceAs (Decidable (_ ∧ _ ∧ _))
theorem qlm {x y h:AV} {W J:List LkI} {P:List Int} (hx:LL x W) (hy:LL y J) (hh:IL h P):Pure prog 23 [x,y,h] (.bool (decide (fewP W J P))) :=by
 have lx :=hx.no
 have ly :=hy.no
 have lh :=hh.no
 by_cases q0:W.length ≤ 5
 ·have c0:decide ((W.length:Int) ≤ 5) = true :=decide_eq_true (by omega)
  by_cases q1:J.length ≤ 8
  ·have c1:decide ((J.length:Int) ≤ 8) = true :=decide_eq_true (by omega)
   have e:decide (fewP W J P) = decide ((P.length:Int) ≤ 8) :=decide_eq_decide.2 ⟨fun z => by have :=z.2.2;omega,fun z => ⟨q0,q1,by omega⟩⟩
   rw [e]
   rcases hx with ⟨rfl,rfl⟩ | rfl <;> rcases hy with ⟨rfl,rfl⟩ | rfl <;> rcases hh with ⟨rfl,rfl⟩ | rfl
   all_goals
    refine qas hE rfl (by repeat' first|exact trivial|assumption|exact qag _|exact fun _ h => nomatch h|apply And.intro) (by repeat' first|exact trivial|assumption|exact qag _|exact fun _ h => nomatch h|apply And.intro) fun S q pc hS hq hC hE => ?_
    conv => whnf
    repeat ((first|refine qai ‹_› ?_|refine qah ‹_› ?_|refine pkT ‹_› ?_|refine qaa ‹_› ?_|refine qai (qaj ‹_›) ?_|refine qah (qaj ‹_›) ?_|refine pkT (qaj ‹_›) ?_|refine qaa (qaj ‹_›) ?_|refine qad hS (by kernel_rfl) ?_);conv => whnf)
    exact ⟨_,rfl,Wk.refl _⟩
  ·have c1:decide ((J.length:Int) ≤ 8) = false :=decide_eq_false (by omega)
   rw [decide_eq_false (show ¬ fewP W J P from fun z => q1 z.2.1)]
   rcases hy with ⟨_,rfl⟩ | rfl
   ·exact absurd (Nat.zero_le 8) q1
   rcases hx with ⟨rfl,rfl⟩ | rfl <;> rcases hh with ⟨rfl,rfl⟩ | rfl
   all_goals
    refine qas hE rfl (by repeat' first|exact trivial|assumption|exact qag _|exact fun _ h => nomatch h|apply And.intro) (by repeat' first|exact trivial|assumption|exact qag _|exact fun _ h => nomatch h|apply And.intro) fun S q pc hS hq hC hE => ?_
    conv => whnf
    repeat ((first|refine qai ‹_› ?_|refine qah ‹_› ?_|refine pkT ‹_› ?_|refine qaa ‹_› ?_|refine qao ‹_› ?_|refine qap ‹_› ?_|refine pkF ‹_› ?_|refine qac ‹_› ?_|refine qai (qaj ‹_›) ?_|refine qah (qaj ‹_›) ?_|refine pkT (qaj ‹_›) ?_|refine qaa (qaj ‹_›) ?_|refine qao (qay ‹_›) ?_|refine qap (qay ‹_›) ?_|refine pkF (qay ‹_›) ?_|refine qac (qay ‹_›) ?_|refine qad hS (by kernel_rfl) ?_);conv => whnf)
    exact ⟨_,rfl,Wk.refl _⟩
 ·have c0:decide ((W.length:Int) ≤ 5) = false :=decide_eq_false (by omega)
  rw [decide_eq_false (show ¬ fewP W J P from fun z => q0 z.1)]
  rcases hx with ⟨_,rfl⟩ | rfl
  ·exact absurd (Nat.zero_le 5) q0
  rcases hy with ⟨rfl,rfl⟩ | rfl <;> rcases hh with ⟨rfl,rfl⟩ | rfl
  all_goals
   refine qas hE rfl (by repeat' first|exact trivial|assumption|exact qag _|exact fun _ h => nomatch h|apply And.intro) (by repeat' first|exact trivial|assumption|exact qag _|exact fun _ h => nomatch h|apply And.intro) fun S q pc hS hq hC hE => ?_
   conv => whnf
   repeat ((first|refine qao c0 ?_|refine qap c0 ?_|refine pkF c0 ?_|refine qac c0 ?_|refine qao (qay c0) ?_|refine qap (qay c0) ?_|refine pkF (qay c0) ?_|refine qac (qay c0) ?_|refine qad hS (by kernel_rfl) ?_);conv => whnf)
   exact ⟨_,rfl,Wk.refl _⟩
def okP (W J:List LkI) (x:List Int):Prop :=isPl W J x ∧ inTm W J x
end
end Go.Abs.Seat
namespace Go.Abs.Seat
noncomputable section
open Go Go.Abs Go.Proofs.Tryz
set_option maxRecDepth 100000
set_option maxHeartbeats 4000000
instance (W J:List LkI) (x:List Int):Decidable (okP W J x) :=Classical.propDecidable _
def plm (W J:List LkI) (x:List Int):Pln :=(x,wgJ W J x x.length)
def exN (w:Nat):Nat → List Int → List (List Int)
 | 0,now => [now]
 |f + 1,now => (List.range w).flatMap fun n => exN w f (now ++ [Int.ofNat n])
theorem qku (w:Nat):∀ L,exF w L = L.flatMap fun x => exR x w
 | [] => rfl
 |x :: r => by rw [exF,qku w r];rfl
theorem qvh (x:List Int) (w:Nat):exR x w = (List.range w).flatMap fun n => [x ++ [Int.ofNat n]] :=by
 unfold exR
 generalize List.range w = l
 induction l with
 |nil => rfl
 |cons a r ih => simp only [List.map_cons,List.flatMap_cons,ih];rfl
theorem qpi (w:Nat):∀ (f:Nat) (now:List Int),exN w (f + 1) now = exF w (exN w f now)
 | 0,now => by
  rw [exN]
  show (List.range w).flatMap (fun n => [now ++ [Int.ofNat n]]) = exF w [now]
  rw [← qvh,exF,exF,List.append_nil]
 |f + 1,now => by
  have e:exN w (f + 2) now = (List.range w).flatMap fun n => exN w (f + 1) (now ++ [Int.ofNat n]) :=rfl
  rw [e,qku]
  have e2:exN w (f + 1) now = (List.range w).flatMap fun n => exN w f (now ++ [Int.ofNat n]) :=rfl
  rw [e2,List.flatMap_assoc]
  congr 1
  funext n
  rw [qpi w f,qku]
theorem qnq (w:Nat):∀ i,alP w i = exN w i []
 | 0 => rfl
 |i + 1 => by rw [alP,qnq w i,qpi]
theorem qov (W J:List LkI) (i:Nat) (g:Nat → List Pln):∀ k,ndP W J i g k = (List.range k).flatMap fun n => if lvP W J i n then g n else []
 | 0 => rfl
 |k + 1 => by
  rw [ndP,qov W J i g k,List.range_succ,List.flatMap_append]
  simp
theorem qkt {w:Nat}:∀ {f:Nat} {now z:List Int},z ∈ exN w f now → ∃ t,z = now ++ t
 | 0,now,z,h => ⟨[],by rw [List.append_nil];simpa [exN] using h⟩
 |f + 1,now,z,h => by
  rw [exN,List.mem_flatMap] at h
  obtain ⟨n,_,h2⟩ :=h
  obtain ⟨t,rfl⟩ :=qkt h2
  exact ⟨Int.ofNat n :: t,by simp⟩
theorem qzn (a b:List Int) (x:Int):gi (a ++ [x] ++ b) a.length = x :=by
 show List.getD _ _ _ = _
 simp [List.getD]
theorem qq6 (W J:List LkI):∀ (f:Nat) (now:List Int),now.length + f = J.length → pfP W J now → srQP W J f now = ((exN W.length f now).filter fun x => decide (okP W J x)).map (plm W J)
 | 0,now,hl,hp => by
  rw [srQP,exN]
  have hpl:isPl W J now :=⟨hl,hp⟩
  by_cases c:inTm W J now
  ·have d:okP W J now :=⟨hpl,c⟩
   rw [if_pos c,List.filter_cons_of_pos (p :=fun x => decide (okP W J x)) (decide_eq_true d)];rfl
  ·rw [if_neg c,List.filter_cons_of_neg (p :=fun x => decide (okP W J x)) (fun z => c (of_decide_eq_true z).2)];rfl
 |f + 1,now,hl,hp => by
  rw [srQP,qov,exN,List.filter_flatMap,List.map_flatMap]
  have key:∀ n,n ∈ List.range W.length → (if lvP W J now.length n then srQP W J f (now ++ [Int.ofNat n]) else []) = ((exN W.length f (now ++ [Int.ofNat n])).filter fun x => decide (okP W J x)).map (plm W J) :=fun n hn => by
   have hn :=List.mem_range.1 hn
   by_cases c:lvP W J now.length n
   ·rw [if_pos c]
    exact qq6 W J f (now ++ [Int.ofNat n]) (by rw [List.length_append,List.length_singleton];omega) (qjx hp hn c)
   ·rw [if_neg c]
    have e:(exN W.length f (now ++ [Int.ofNat n])).filter (fun x => decide (okP W J x)) = [] :=List.filter_eq_nil_iff.2 fun z hz => by
     intro k
     have k :=of_decide_eq_true k
     obtain ⟨t,rfl⟩ :=qkt hz
     have h1 :=k.1.2 now.length (by rw [List.length_append,List.length_append,List.length_singleton];omega)
     unfold qqg at h1
     rw [qzn] at h1
     exact c h1.2
    rw [e];rfl
  have fl:∀ l:List Nat,(∀ n,n ∈ l → n ∈ List.range W.length) → (l.flatMap fun n => if lvP W J now.length n then srQP W J f (now ++ [Int.ofNat n]) else []) = l.flatMap fun n => ((exN W.length f (now ++ [Int.ofNat n])).filter fun x => decide (okP W J x)).map (plm W J) :=by
   intro l
   induction l with
   |nil => intro _;rfl
   |cons a r ih =>
    intro h
    rw [List.flatMap_cons,List.flatMap_cons,key a (h a (List.mem_cons_self ..)),ih fun n hn => h n (List.mem_cons_of_mem _ hn)]
  exact fl _ fun _ h => h
theorem qv1 (W J:List LkI):plL W J = ((alP W.length J.length).filter fun x => decide (okP W J x)).map (plm W J) :=by
 unfold plL
 rw [qq6 W J J.length [] (by simp) (fun i h => absurd h (Nat.not_lt_zero _)),qnq]
def ltP:List Int → List Int → Prop
 |a :: r,b :: s => a < b ∨ a = b ∧ ltP r s
 | _,_ => False
theorem qsk:∀ a,¬ ltP a a
 | [] => fun h => h
 | _ :: r => fun h => h.elim (fun z => Int.lt_irrefl _ z) fun z => qsk r z.2
theorem qox:∀ {a b},ltP a b → ¬ ltP b a
 | [],_,h,_ => h
 | _ :: _,[],h,_ => h
 |a :: r,b :: s,h,k => by
  rcases h with h | ⟨h,h'⟩
  ·rcases k with k | ⟨k,_⟩
   ·exact Int.lt_asymm h k
   ·exact Int.lt_irrefl b (k ▸ h)
  ·rcases k with k | ⟨_,k'⟩
   ·exact Int.lt_irrefl b (h ▸ k)
   ·exact qox h' k'
theorem qll:∀ {a b c},ltP a b → ltP b c → ltP a c
 | [],_,_,h,_ => h.elim
 | _ :: _,[],_,h,_ => h.elim
 | _ :: _,_ :: _,[],_,k => k.elim
 |a :: r,b :: s,c :: t,h,k => by
  rcases h with h | ⟨h,h'⟩
  ·rcases k with k | ⟨k,_⟩
   ·exact .inl (Int.lt_trans h k)
   ·exact .inl (k ▸ h)
  ·rcases k with k | ⟨k,k'⟩
   ·exact .inl (h ▸ k)
   ·exact .inr ⟨h.trans k,qll h' k'⟩
theorem qsj:∀ (p:List Int) {a b:List Int},ltP a b → ltP (p ++ a) (p ++ b)
 | [],_,_,h => h
 | _ :: p,_,_,h => .inr ⟨rfl,qsj p h⟩
theorem qwm (w:Nat):∀ (f:Nat) (now:List Int),(exN w f now).Pairwise ltP
 | 0,now => List.pairwise_singleton _ _
 |f + 1,now => by
  rw [exN,List.pairwise_flatMap]
  refine ⟨fun n _ => qwm w f _,?_⟩
  refine List.Pairwise.imp (R :=(· < ·)) (fun {a b} hab x hx y hy => ?_) List.pairwise_lt_range
  obtain ⟨t,rfl⟩ :=qkt hx
  obtain ⟨u,rfl⟩ :=qkt hy
  rw [List.append_assoc,List.append_assoc]
  refine qsj now (.inl ?_)
  exact Int.ofNat_lt.2 hab
theorem qky {R:Pln → Pln → Prop} (htr:∀ a b c,R a b → R b c → R a c):∀ (r:List Pln) (x:Pln),(x :: r).Pairwise R → (bsP x r = x ∨ bsP x r ∈ r) ∧ ∀ y,y = x ∨ y ∈ r → (bsP x r).2 ≤ y.2 ∧ (y.2 = (bsP x r).2 → y = bsP x r ∨ R (bsP x r) y)
 | [],x,_ => ⟨.inl rfl,fun y hy => by
  rcases hy with rfl | hy
  ·exact ⟨Int.le_refl _,fun _ => .inl rfl⟩
  ·cases hy⟩
 |z :: r,x,hp => by
  have hp' :=List.pairwise_cons.1 hp
  rw [bsP]
  by_cases c:z.2 < x.2
  ·rw [if_pos c]
   obtain ⟨h1,h2⟩ :=qky htr r z hp'.2
   refine ⟨.inr ?_,fun y hy => ?_⟩
   ·rcases h1 with h1 | h1
    ·rw [h1];exact List.mem_cons_self ..
    ·exact List.mem_cons_of_mem _ h1
   ·rcases hy with rfl | hy
    ·have :=(h2 z (.inl rfl)).1
     exact ⟨by omega,fun e => by omega⟩
    ·exact h2 y (by rcases List.mem_cons.1 hy with rfl | hy;exact .inl rfl;exact .inr hy)
  ·rw [if_neg c]
   have hpx:(x :: r).Pairwise R :=List.pairwise_cons.2 ⟨fun y hy => hp'.1 y (List.mem_cons_of_mem _ hy),(List.pairwise_cons.1 hp'.2).2⟩
   obtain ⟨h1,h2⟩ :=qky htr r x hpx
   refine ⟨?_,fun y hy => ?_⟩
   ·rcases h1 with h1 | h1
    ·exact .inl h1
    ·exact .inr (List.mem_cons_of_mem _ h1)
   ·rcases hy with rfl | hy
    ·exact h2 y (.inl rfl)
    ·rcases List.mem_cons.1 hy with rfl | hy
     ·have hx :=(h2 x (.inl rfl)).1
      refine ⟨by omega,fun e => ?_⟩
      have ex:x.2 = (bsP x r).2 :=by omega
      rcases (h2 x (.inl rfl)).2 ex with k | k
      ·rw [← k];exact .inr (hp'.1 y (List.mem_cons_self ..))
      ·exact .inr (htr _ _ _ k (hp'.1 y (List.mem_cons_self ..)))
     ·exact h2 y (.inr hy)
theorem qt0 {w:Nat}:∀ {i:Nat} {z:List Int},z.length = i → (∀ j,j < z.length → 0 ≤ gi z j ∧ gi z j < (w:Int)) → z ∈ alP w i
 | 0,z,h,_ => by rw [List.length_eq_zero_iff.1 h];exact List.mem_singleton.2 rfl
 |i + 1,z,h,hb => by
  have hne:z ≠ [] :=fun e => by rw [e] at h;cases h
  have hd :=List.dropLast_concat_getLast hne
  have hl:z.dropLast.length = i :=by rw [List.length_dropLast,h];rfl
  rw [alP,qtl]
  have hg:gi z i = z.getLast hne :=by
   show List.getD _ _ _ = _
   rw [List.getLast_eq_getElem]
   simp [List.getD,h]
  have hbi :=hb i (by omega)
  rw [hg] at hbi
  refine ⟨z.dropLast,(z.getLast hne).toNat,qt0 hl fun j hj => ?_,by omega,?_⟩
  ·have :=hb j (by omega)
   have e:gi z.dropLast j = gi z j :=by
    show List.getD _ _ _ = List.getD _ _ _
    simp only [List.getD]
    rw [List.getElem?_dropLast,if_pos (by omega)]
   rw [e];exact this
  ·have e:Int.ofNat (z.getLast hne).toNat = z.getLast hne :=Int.toNat_of_nonneg hbi.1
   rw [e];exact hd.symm
theorem qif {W J:List LkI} {p:Pln} (h:qdm W J = some p):okP W J p.1 ∧ p.2 = wgJ W J p.1 p.1.length ∧ p.1.length = J.length ∧ ∀ z,okP W J z → p.2 ≤ wgJ W J z z.length ∧ (wgJ W J z z.length = p.2 → ¬ ltP z p.1) :=by
 unfold qdm at h
 have hpl :=qv1 W J
 have hpw:(plL W J).Pairwise fun a b => ltP a.1 b.1 :=by
  rw [hpl,List.pairwise_map]
  refine List.Pairwise.filter _ ?_
  rw [qnq]
  exact qwm _ _ _
 have hall:∀ z,okP W J z → plm W J z ∈ plL W J :=fun z hz => by
  rw [hpl]
  refine List.mem_map.2 ⟨z,List.mem_filter.2 ⟨qt0 hz.1.1 fun i hi => ?_,decide_eq_true hz⟩,rfl⟩
  have :=(hz.1.2 i hi).1
  omega
 have hmem:∀ q,q ∈ plL W J → okP W J q.1 ∧ q.2 = wgJ W J q.1 q.1.length :=fun q hq => by
  rw [hpl] at hq
  obtain ⟨x,h1,rfl⟩ :=List.mem_map.1 hq
  exact ⟨of_decide_eq_true (List.mem_filter.1 h1).2,rfl⟩
 cases hL:plL W J with
 |nil => rw [hL] at h;cases h
 |cons x r =>
  rw [hL] at h hpw hall hmem
  have h:some (bsP x r) = some p :=h
  cases h
  obtain ⟨k1,k2⟩ :=qky (R :=fun a b => ltP a.1 b.1) (fun _ _ _ h k => qll h k) r x hpw
  have hin:bsP x r ∈ x :: r :=by
   rcases k1 with k | k
   ·rw [k];exact List.mem_cons_self ..
   ·exact List.mem_cons_of_mem _ k
  obtain ⟨q1,q2⟩ :=hmem _ hin
  refine ⟨q1,q2,q1.1.1,fun z hz => ?_⟩
  have hz2 :=hall z hz
  have :=k2 (plm W J z) (List.mem_cons.1 hz2)
  refine ⟨this.1,fun e k => ?_⟩
  rcases this.2 e with e2 | e2
  ·rw [← e2] at k
   exact qsk _ k
  ·exact qox e2 k
theorem qnl {W J:List LkI} (h:qdm W J = none):∀ z,¬ okP W J z :=fun z hz => by
 unfold qdm at h
 have hpl :=qv1 W J
 have hall:plm W J z ∈ plL W J :=by
  rw [hpl]
  refine List.mem_map.2 ⟨z,List.mem_filter.2 ⟨qt0 hz.1.1 fun i hi => ?_,decide_eq_true hz⟩,rfl⟩
  have :=(hz.1.2 i hi).1
  omega
 cases hL:plL W J with
 |nil => rw [hL] at hall;cases hall
 |cons x r => rw [hL] at h;cases h
end
end Go.Abs.Seat
namespace Go.Abs.Seat
noncomputable section
open Go Go.Abs Go.Proofs.Tryz
set_option maxRecDepth 100000
set_option maxHeartbeats 40000000
attribute [local irreducible] IntKind.wrap pEq qd1
theorem qht (l s:Int):Pure prog 38 [iv l,iv s] (.bool (decide (swOk l s))) :=by
 by_cases h1:1 ≤ l ∧ l ≤ 500
 ·have c1:decide (1 ≤ l ∧ l ≤ 500) = true :=decide_eq_true h1
  refine qas hE rfl (by repeat' first|exact trivial|assumption|exact qag _|exact fun _ h => nomatch h|apply And.intro) (by repeat' first|exact trivial|assumption|exact qag _|exact fun _ h => nomatch h|apply And.intro) fun S q pc hS hq hC hE => ?_
  conv => whnf
  repeat ((first|refine qai c1 ?_|refine qah c1 ?_|refine pkT c1 ?_|refine qaa c1 ?_|refine qai (qaj c1) ?_|refine qah (qaj c1) ?_|refine pkT (qaj c1) ?_|refine qaa (qaj c1) ?_|refine qab hC (qaw l 1 500) ?_|refine qab hC (qaw s 0 9) ?_|refine qad hS (by kernel_rfl) ?_);conv => whnf)
  exact ⟨_,rfl,wkb (by unfold swOk;simp [h1])⟩
 ·have c1:decide (1 ≤ l ∧ l ≤ 500) = false :=decide_eq_false h1
  refine qas hE rfl (by repeat' first|exact trivial|assumption|exact qag _|exact fun _ h => nomatch h|apply And.intro) (by repeat' first|exact trivial|assumption|exact qag _|exact fun _ h => nomatch h|apply And.intro) fun S q pc hS hq hC hE => ?_
  conv => whnf
  repeat ((first|refine qao c1 ?_|refine qap c1 ?_|refine pkF c1 ?_|refine qac c1 ?_|refine qao (qay c1) ?_|refine qap (qay c1) ?_|refine pkF (qay c1) ?_|refine qac (qay c1) ?_|refine qab hC (qaw l 1 500) ?_|refine qad hS (by kernel_rfl) ?_);conv => whnf)
  exact ⟨_,rfl,wkb (by unfold swOk;simp [h1])⟩
def wlOk (T:List Int):Prop :=allT T ∧ 1 ≤ T.length ∧ T.length ≤ 8
instance (T:List Int):Decidable (wlOk T) :=Classical.propDecidable _
theorem qgv {x:AV} {T:List Int} (hx:IL x T) (hT:T.length ≤ 10):Pure prog 39 [x] (.bool (decide (wlOk T))) :=by
 rcases hx with ⟨rfl,rfl⟩ | rfl
 ·rw [decide_eq_false (show ¬ wlOk [] from fun z => absurd z.2.1 (by decide))]
  refine qas hE rfl (by repeat' first|exact trivial|assumption|exact qag _|exact fun _ h => nomatch h|apply And.intro) (by repeat' first|exact trivial|assumption|exact qag _|exact fun _ h => nomatch h|apply And.intro) fun S q pc hS hq hC hE => ?_
  conv => whnf
  refine qam hE hS ?_
  conv => whnf
  refine qab hC (qaw 0 1 8) ?_
  conv => whnf
  exact ⟨_,rfl,Wk.refl _⟩
 ·have lT :=qal T
  refine qas hE rfl (by repeat' first|exact trivial|assumption|exact qag _|exact fun _ h => nomatch h|apply And.intro) (by repeat' first|exact trivial|assumption|exact qag _|exact fun _ h => nomatch h|apply And.intro) fun S q pc hS hq hC hE => ?_
  conv => whnf
  refine qfr hE hS (A :=Nat) [0] (fun i => [(3,nv i)]) (fun _ => []) (fun i => i ≤ T.length ∧ ∀ j,j < i → tth (gi T j)) (fun i => T.length - i) 0 rfl rfl (by refine ⟨rfl,rfl,rfl,rfl,?_,?_⟩ <;> repeat' (first|exact trivial|exact rfl|exact Nat.zero_le _|exact qae lT|exact kle rfl|exact qae (by assumption)|exact qae (qag _)|exact qae (qal _)|exact mxI rfl|apply And.intro)) ⟨Nat.zero_le _,fun _ h => absurd h (Nat.not_lt_zero _)⟩ ?_
  intro i ⟨hi,hj⟩
  conv => whnf
  by_cases hi2:i < T.length
  ·refine qaa (qa3 hi2) ?_
   conv => whnf
   refine qaa (qav (i :=i) (n :=T.length) hi2) ?_
   conv => whnf
   refine qaf (nthP (qbp (l :=T) (i :=i) hi2)) ?_
   conv => whnf
   refine qab hC (qmm (gi T i)) ?_
   conv => whnf
   by_cases h1:tth (gi T i)
   ·refine qac (nt_t (decide_eq_true h1)) ?_
    conv => whnf
    exact ⟨i + 1,⟨hi2,fun j hj2 => by
     by_cases e:j = i
     ·subst e;exact h1
     ·exact hj j (by omega)⟩,by omega,(by refine ⟨rfl,rfl,rfl,rfl,?_,?_⟩ <;> repeat' (first|exact trivial|exact rfl|exact Nat.zero_le _|exact congrArg (fun z => some (AV.int .i64 z)) (show IntKind.i64.wrap (Int.ofNat i + 1) = Int.ofNat (i + 1) from qa7 (m :=i + 1) (by omega))|exact qae lT|exact kle rfl|exact qae (by assumption)|exact qae (qag _)|exact qae (qal _)|exact mxI rfl|apply And.intro))⟩
   ·refine qaa (nt_f (decide_eq_false h1)) ?_
    conv => whnf
    rw [decide_eq_false (show ¬ wlOk T from fun z => h1 (z.1 i hi2))]
    exact ⟨_,rfl,Wk.refl _⟩
  ·refine qac (qbn hi2) ?_
   conv => whnf
   refine qab hC (qaw T.length 1 8) ?_
   conv => whnf
   exact ⟨_,rfl,wkb (decide_eq_decide.2 ⟨fun z => ⟨fun j hj2 => hj j (by omega),by omega,by omega⟩,fun z => by have :=z.2;omega⟩)⟩
end
end Go.Abs.Seat
namespace Go.Abs.Seat
noncomputable section
open Go Go.Abs Go.Proofs.Tryz
set_option maxRecDepth 100000
set_option maxHeartbeats 40000000
attribute [local irreducible] IntKind.wrap pEq
theorem qg0 (a b:Int):Pure prog 106 [iv a,iv b] (.bool (decide ((tth a ∧ tth b) ∧ a ≤ b))) :=by
 by_cases h1:tth a
 ·have c1:decide (tth a) = true :=decide_eq_true h1
  by_cases h2:tth b
  ·have c2:decide (tth b) = true :=decide_eq_true h2
   refine qas hE rfl (by repeat' first|exact trivial|assumption|exact qag _|exact fun _ h => nomatch h|apply And.intro) (by repeat' first|exact trivial|assumption|exact qag _|exact fun _ h => nomatch h|apply And.intro) fun S q pc hS hq hC hE => ?_
   conv => whnf
   repeat ((first|refine qai ‹_› ?_|refine qah ‹_› ?_|refine pkT ‹_› ?_|refine qaa ‹_› ?_|refine qai (qaj ‹_›) ?_|refine qah (qaj ‹_›) ?_|refine pkT (qaj ‹_›) ?_|refine qaa (qaj ‹_›) ?_|refine qab hC (qbt a) ?_|refine qab hC (qbt b) ?_|refine qad hS (by kernel_rfl) ?_);conv => whnf)
   exact ⟨_,rfl,wkb (by simp [h1,h2])⟩
  ·have c2:decide (tth b) = false :=decide_eq_false h2
   refine qas hE rfl (by repeat' first|exact trivial|assumption|exact qag _|exact fun _ h => nomatch h|apply And.intro) (by repeat' first|exact trivial|assumption|exact qag _|exact fun _ h => nomatch h|apply And.intro) fun S q pc hS hq hC hE => ?_
   conv => whnf
   repeat ((first|refine qai ‹_› ?_|refine qah ‹_› ?_|refine pkT ‹_› ?_|refine qaa ‹_› ?_|refine qao ‹_› ?_|refine qap ‹_› ?_|refine pkF ‹_› ?_|refine qac ‹_› ?_|refine qai (qaj ‹_›) ?_|refine qah (qaj ‹_›) ?_|refine pkT (qaj ‹_›) ?_|refine qaa (qaj ‹_›) ?_|refine qao (qay ‹_›) ?_|refine qap (qay ‹_›) ?_|refine pkF (qay ‹_›) ?_|refine qac (qay ‹_›) ?_|refine qab hC (qbt a) ?_|refine qab hC (qbt b) ?_|refine qad hS (by kernel_rfl) ?_);conv => whnf)
   exact ⟨_,rfl,wkb (by simp [h2])⟩
 ·have c1:decide (tth a) = false :=decide_eq_false h1
  refine qas hE rfl (by repeat' first|exact trivial|assumption|exact qag _|exact fun _ h => nomatch h|apply And.intro) (by repeat' first|exact trivial|assumption|exact qag _|exact fun _ h => nomatch h|apply And.intro) fun S q pc hS hq hC hE => ?_
  conv => whnf
  repeat ((first|refine qao c1 ?_|refine qap c1 ?_|refine pkF c1 ?_|refine qac c1 ?_|refine qao (qay c1) ?_|refine qap (qay c1) ?_|refine pkF (qay c1) ?_|refine qac (qay c1) ?_|refine qab hC (qbt a) ?_|refine qad hS (by kernel_rfl) ?_);conv => whnf)
  exact ⟨_,rfl,wkb (by simp [h1])⟩
theorem qfb (a b:Int):Pure prog 107 [fv a b] (.bool (decide (isF a b))) :=by
 by_cases h1:0 ≤ a ∧ a ≤ 50000
 ·have c1:decide (0 ≤ a ∧ a ≤ 50000) = true :=decide_eq_true h1
  refine qas hE rfl (by repeat' first|exact trivial|assumption|exact qag _|exact fun _ h => nomatch h|apply And.intro) (by repeat' first|exact trivial|assumption|exact qag _|exact fun _ h => nomatch h|apply And.intro) fun S q pc hS hq hC hE => ?_
  conv => whnf
  repeat ((first|refine qai c1 ?_|refine qah c1 ?_|refine pkT c1 ?_|refine qaa c1 ?_|refine qai (qaj c1) ?_|refine qah (qaj c1) ?_|refine pkT (qaj c1) ?_|refine qaa (qaj c1) ?_|refine qab hC (qax a 0 50000) ?_|refine qab hC (qax b 1 50000) ?_|refine qad hS (by kernel_rfl) ?_);conv => whnf)
  exact ⟨_,rfl,wkb (by unfold isF;simp [h1])⟩
 ·have c1:decide (0 ≤ a ∧ a ≤ 50000) = false :=decide_eq_false h1
  refine qas hE rfl (by repeat' first|exact trivial|assumption|exact qag _|exact fun _ h => nomatch h|apply And.intro) (by repeat' first|exact trivial|assumption|exact qag _|exact fun _ h => nomatch h|apply And.intro) fun S q pc hS hq hC hE => ?_
  conv => whnf
  repeat ((first|refine qao c1 ?_|refine qap c1 ?_|refine pkF c1 ?_|refine qac c1 ?_|refine qao (qay c1) ?_|refine qap (qay c1) ?_|refine pkF (qay c1) ?_|refine qac (qay c1) ?_|refine qab hC (qax a 0 50000) ?_|refine qad hS (by kernel_rfl) ?_);conv => whnf)
  exact ⟨_,rfl,wkb (by unfold isF;simp [h1])⟩
theorem qpx (a b n d:Nat) (h1:a * d < 4611686018427387904) (h2:n * b < 4611686018427387904):Pure prog 112 [fv (Int.ofNat a) (Int.ofNat b),fv (Int.ofNat n) (Int.ofNat d)] (qf (dQ n d (a,b))) :=by
 refine qas hE rfl (by repeat' first|exact trivial|assumption|exact qag _|exact fun _ h => nomatch h|apply And.intro) (by repeat' first|exact trivial|assumption|exact qag _|exact fun _ h => nomatch h|apply And.intro) fun S q pc hS hq hC hE => ?_
 conv => whnf
 refine ⟨_,rfl,wkE ?_⟩
 rw [show IntKind.i64.wrap (Int.ofNat a * Int.ofNat d) = Int.ofNat (a * d) from qa7 (m :=a * d) (by omega),show IntKind.i64.wrap (Int.ofNat n * Int.ofNat b) = Int.ofNat (n * b) from qa7 (m :=n * b) (by omega),
  qdp (by show _ ≤ (_:Int) - _;simp only [Int.ofNat_eq_natCast];omega) (by simp only [Int.ofNat_eq_natCast];omega),qu3 h1 h2]
 rfl
abbrev hpA (N:List Lk) (M:List Int) (n d:Nat) (W0 W2 W4:AObj):Tr AObj :=
 .node W0 (.node (.cells (.node (nv n) (.node (nv d) .nil .nil) .nil) 2 78) (.node (.cells (.node (nkA N) (.node (nl M) .nil .nil) (.node (pv (zp (rtL N (N.length + 1)))) .nil .nil)) 3 155) .nil .nil) (.node (.cells (.node (.func (.func 111) [] [.ptr 3 0,.ptr 1 0]) .nil .nil) 1 167) .nil .nil)) (.node W2 (.node W4 .nil .nil) .nil)
theorem qs4 (N:List Lk) (M:List Int) (n d:Nat) (W0 W2 W4:AObj):HEnd (hpA N M n d W0 W2 W4) 6 :=qcq [W0,.cells (.node (nv n) (.node (nv d) .nil .nil) .nil) 2 78,W2,.cells (.node (nkA N) (.node (nl M) .nil .nil) (.node (pv (zp (rtL N (N.length + 1)))) .nil .nil)) 3 155,W4,.cells (.node (.func (.func 111) [] [.ptr 3 0,.ptr 1 0]) .nil .nil) 1 167] 0 .nil qcr
abbrev lkV (x:Lk):AV :=.agg [nv x.1,nv x.2.1,nv x.2.2]
def wyA (N:List Lk) (n d:Nat) (x:Lk):Nat × Nat :=dQ n d ((rtA N x.1).1 * x.2.1,(rtA N x.1).2 * x.2.2)
structure nwL (N:List Lk) (x:Lk):Prop where
 f:x.1 ≤ N.length
 a:x.2.1 ≤ 60
 b:x.2.2 ≤ 60
theorem qqq {N:List Lk} (h:okN N) {n d:Nat} (hn:n ≤ 50000) (hd:d ≤ 50000) {x:Lk} (hx:nwL N x):((rtA N x.1).1 * x.2.1 ≤ 12960000 ∧ (rtA N x.1).2 * x.2.2 ≤ 12960000) ∧ (wyA N n d x).1 ≤ 648000000000 ∧ (wyA N n d x).2 ≤ 12960000 :=by
 have hb :=qhs h hx.f
 have m1:(rtA N x.1).1 * x.2.1 ≤ 216000 * 60 :=Nat.mul_le_mul hb.1.2 hx.a
 have m2:(rtA N x.1).2 * x.2.2 ≤ 216000 * 60 :=Nat.mul_le_mul hb.2.2 hx.b
 have m3:(rtA N x.1).1 * x.2.1 * d ≤ 12960000 * 50000 :=Nat.mul_le_mul (by omega) hd
 have m4:n * ((rtA N x.1).2 * x.2.2) ≤ 50000 * 12960000 :=Nat.mul_le_mul hn (by omega)
 refine ⟨⟨by omega,by omega⟩,?_,by show (rtA N x.1).2 * x.2.2 ≤ _;omega⟩
 show gp ((rtA N x.1).1 * x.2.1 * d) (n * ((rtA N x.1).2 * x.2.2)) ≤ _
 unfold gp
 omega
theorem qw0 {N:List Lk} (h:okN N) {M:List Int} {n d:Nat} (hn:n ≤ 50000) (hd:d ≤ 50000) {W0 W2 W4:AObj} (b0:BdO 6 W0) (b2:BdO 6 W2) (b4:BdO 6 W4) {x:Lk} (hx:nwL N x) :
  HFun prog 111 [lkV x,.ptr 3 0,.ptr 1 0] (hv (hpA N M n d W0 W2 W4)) 6 (qf (wyA N n d x)) (hv (hpA N M n d W0 W2 W4)) :=by
 have lN :=qau (cL N)
 have lM :=qal M
 have lR :=qag (zp (rtL N (N.length + 1)))
 have hBd:ObBd 6 (hpA N M n d W0 W2 W4) 6 :=by
  repeat' (first|exact trivial|exact b0|exact b2|exact b4|exact Nat.zero_le _|exact qae lN|exact qae lM|exact qae lR|exact kle rfl|apply And.intro|exact Nat.max_le.2 ⟨Nat.zero_le _,qae lN⟩)
 refine qdb hE rfl (qs4 N M n d W0 W2 W4) (kle rfl) (Nat.zero_le _) hBd hBd fun S q pc hS hq hC hE => ?_
 have hf :=hx.f
 have hb :=qqq h hn hd hx
 have tk:qb0 2 (qcl (x.1 * 2) (flat (zp (rtL N (N.length + 1))))) = some [nv (rtA N x.1).1,nv (rtA N x.1).2] :=by
  rw [qhl _ (by rw [qbr];omega),qfj N (by omega)]
 have m3:(rtA N x.1).1 * x.2.1 * d ≤ 12960000 * 50000 :=Nat.mul_le_mul hb.1.1 hd
 have m4:n * ((rtA N x.1).2 * x.2.2) ≤ 50000 * 12960000 :=Nat.mul_le_mul hn hb.1.2
 conv => whnf
 refine qaa ((show inR (Int.ofNat x.1) (zp (rtL N (N.length + 1))).length = true by rw [qde,qbr];exact qav (by omega))) ?_
 conv => whnf
 refine qaf (takP tk) ?_
 conv => whnf
 rw [mulN (a :=(rtA N x.1).1) (b :=x.2.1) (by omega),mulN (a :=(rtA N x.1).2) (b :=x.2.2) (by omega)]
 refine qab hC (qpx ((rtA N x.1).1 * x.2.1) ((rtA N x.1).2 * x.2.2) n d (by omega) (by omega)) ?_
 conv => whnf
 exact ⟨_,rfl,WkV.refl _,rfl,rfl,rfl,rfl,rfl,rfl,trivial⟩
theorem ob6 {h h':Tr AObj} (e0:hv h 0 = hv h' 0) (e1:hv h 1 = hv h' 1) (e2:hv h 2 = hv h' 2) (e3:hv h 3 = hv h' 3) (e4:hv h 4 = hv h' 4) (e5:hv h 5 = hv h' 5):∀ i,i < 6 → hv h i = hv h' i
 | 0,_ => e0
 | 1,_ => e1
 | 2,_ => e2
 | 3,_ => e3
 | 4,_ => e4
 | 5,_ => e5
 | _ + 6,h => absurd h (by omega)
def btL (N:List Lk) (n d:Nat) (x y:Lk):Prop :=(wyA N n d x).1 * (wyA N n d y).2 < (wyA N n d y).1 * (wyA N n d x).2
instance (N:List Lk) (n d:Nat) (x y:Lk):Decidable (btL N n d x y) :=Nat.decLt _ _
theorem qvq {N:List Lk} (h:okN N) {M:List Int} {n d:Nat} (hn:n ≤ 50000) (hd:d ≤ 50000) {W0 W2 W4:AObj} (b0:BdO 6 W0) (b2:BdO 6 W2) (b4:BdO 6 W4) {x y:Lk} (hx:nwL N x) (hy:nwL N y) :
  HFun prog 114 [lkV x,lkV y,.ptr 5 0] (hv (hpA N M n d W0 W2 W4)) 6 (.bool (decide (btL N n d x y))) (hv (hpA N M n d W0 W2 W4)) :=by
 have lN :=qau (cL N)
 have lM :=qal M
 have lR :=qag (zp (rtL N (N.length + 1)))
 have hBd:ObBd 6 (hpA N M n d W0 W2 W4) 6 :=by
  repeat' (first|exact trivial|exact b0|exact b2|exact b4|exact Nat.zero_le _|exact qae lN|exact qae lM|exact qae lR|exact kle rfl|apply And.intro|exact Nat.max_le.2 ⟨Nat.zero_le _,qae lN⟩)
 have ax :=qw0 h (M :=M) hn hd b0 b2 b4 hx
 have ay :=qw0 h (M :=M) hn hd b0 b2 b4 hy
 have gx :=(qqq h hn hd hx).2
 have gy :=(qqq h hn hd hy).2
 have m1:(wyA N n d x).1 * (wyA N n d y).2 ≤ 648000000000 * 12960000 :=Nat.mul_le_mul gx.1 gy.2
 have m2:(wyA N n d y).1 * (wyA N n d x).2 ≤ 648000000000 * 12960000 :=Nat.mul_le_mul gy.1 gx.2
 refine qdb hE rfl (qs4 N M n d W0 W2 W4) (kle rfl) (Nat.zero_le _) hBd hBd fun S q pc hS hq hC hE => ?_
 conv => whnf
 refine qa6 hC (HFun.pureR ax (ob6 rfl rfl rfl rfl rfl rfl)) ?_
 conv => whnf
 refine qa6 hC (HFun.pureR ay (ob6 rfl rfl rfl rfl rfl rfl)) ?_
 conv => whnf
 refine qad hS (by kernel_rfl) ?_
 conv => whnf
 refine ⟨_,rfl,WkV.eq ?_,rfl,rfl,rfl,rfl,rfl,rfl,trivial⟩
 rw [mulN (a :=(wyA N n d x).1) (b :=(wyA N n d y).2) (by omega),mulN (a :=(wyA N n d y).1) (b :=(wyA N n d x).2) (by omega)]
 exact congrArg AV.bool (decide_eq_decide.2 Int.ofNat_lt)
def bsN (N:List Lk) (n d:Nat) (l:List Lk):Nat → Lk
 | 0 => (0,0,0)
 |i + 1 => if i = 0 ∨ btL N n d (gN l i) (bsN N n d l i) then gN l i else bsN N n d l i
theorem qwx {N:List Lk} {n d:Nat} {l:List Lk} (hl:∀ x,x ∈ l → nwL N x):∀ i,i ≤ l.length → nwL N (bsN N n d l i)
 | 0,_ => ⟨Nat.zero_le _,Nat.zero_le _,Nat.zero_le _⟩
 |i + 1,h => by
  rw [bsN]
  split
  ·exact hl _ (qwf l h)
  ·exact qwx hl i (by omega)
end
end Go.Abs.Seat
