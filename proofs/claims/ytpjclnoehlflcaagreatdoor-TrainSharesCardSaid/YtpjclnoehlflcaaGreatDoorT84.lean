/-
  The document's best sharing: the walk.
-/
import Derived.Test.YtpjclnoehlflcaaGreatDoorT83
import Derived.Test.YtpjclnoehlflcaaGreatDoorU5
import Derived.Test.YtpjclnoehlflcaaGreatDoorU15
import Derived.Test.YtpjclnoehlflcaaGreatDoorU16
namespace Go.Abs.Seat
noncomputable section
open Go Go.Abs Go.Proofs.Tryz
set_option maxRecDepth 100000
set_option maxHeartbeats 4000000
attribute [local irreducible] IntKind.wrap pEq
def saA:Ts → AV
 | [] => .nils
 |u :: r => tlV (u :: r)
def shl:List Ts → List AV
 | [] => []
 |a :: r => saA a :: shl r
def alA:List Ts → AV
 | [] => .nils
 |a :: r => .lst (shl (a :: r)) (a :: r).length .no
theorem q0v (a:Ts):Live noL (saA a) :=by
 cases a with
 |nil => trivial
 |cons u r => exact ⟨qba _,fun _ h => nomatch h⟩
theorem qaw:∀ A,Lives noL (shl A)
 | [] => trivial
 |a :: r => ⟨q0v a,qaw r⟩
theorem qb0 (A:List Ts):Live noL (alA A) :=by
 cases A with
 |nil => trivial
 |cons a r => exact ⟨qaw _,fun _ h => nomatch h⟩
theorem qss:∀ A,(shl A).length = A.length
 | [] => rfl
 | _ :: r => by rw [shl,List.length_cons,qss r];rfl
theorem qst:∀ A B,shl (A ++ B) = shl A ++ shl B
 | [],_ => rfl
 |a :: r,B => by rw [List.cons_append,shl,qst r B];rfl
abbrev gA (A:List Ts) (i:Nat):Ts :=A.getD i []
theorem qer:∀ (A:List Ts) (i:Nat),i < A.length → nth (shl A) i = some (saA (gA A i))
 |a :: _,0,_ => rfl
 | _ :: r,i + 1,h => qer r i (by simpa using h)
theorem qm0 (A:List Ts) {i:Nat} (h:i < A.length):gA A i ∈ A :=by
 have e:gA A i = A[i] :=by simp [gA,List.getD,h]
 rw [e];exact List.getElem_mem h
theorem qgs (A:List Ts) {i:Nat} (h:i < A.length):A.take (i + 1) = A.take i ++ [gA A i] :=by
 rw [List.take_succ_eq_append_getElem h]
 simp [gA,List.getD,h]
theorem qu7 (A:List Ts) {i:Nat} (h:i < A.length):A.drop i = gA A i :: A.drop (i + 1) :=by
 rw [List.drop_eq_getElem_cons h]
 simp [gA,List.getD,h]
theorem qgg (A:List Ts):qeh (shl A) (A.length * 1) = true :=by
 have :=qeu (shl A)
 rwa [qss,← Nat.mul_one A.length] at this
def shO2:Option Ts → AV
 |none => .tup [.nils,.bool false]
 |some us => .tup [tlV us,.bool true]
theorem qyr (o:Option Ts):Live noL (shO2 o) :=by
 cases o with
 |none => exact ⟨trivial,trivial,trivial⟩
 |some us => exact ⟨⟨qba us,fun _ h => nomatch h⟩,trivial,trivial⟩
abbrev nxV (X:List Ts) (v:AV) (ux:List AObj):Prop :=X = [] ∧ v = .nils ∧ ux = [] ∨ X ≠ [] ∧ v = .lst (shl X) X.length (.ch 2) ∧ ∃ j,ux = [.chain j 1 22,.chain X.length 1 68]
def ovA:Option Ts → AV
 |none => .nils
 |some us => tlV us
theorem qxz {a:Ts} (h:a ≠ []):saA a = tlV a :=by
 cases a with
 |nil => exact absurd rfl h
 |cons _ _ => rfl
def xV:Option (List (Nat × Nat)) → AV
 |none => .nils
 |some u => pv (zp u)
theorem qtt {α:Type} (o:Option α):o = none ∨ ∃ u,o = some u :=by
 cases o with
 |none => exact .inl rfl
 |some u => exact .inr ⟨u,rfl⟩
theorem qh8 (l:Ts):qdk (l.length * 1) (tls l) = some (tls l) :=by
 have :=qh9 (tls l)
 rwa [qnl,← Nat.mul_one l.length] at this
theorem qd8:∀ l:Ts,qda (tls l) = true
 | [] => rfl
 | _ :: r => qd8 r
theorem qqv (M:List Ts) (q:Ts) {v:AV} (e:WkV v (saA q)) (c:Nat):WkV (AV.lst (shl M ++ [v]) (M.length + (0 + 1)) (.ch c)) (.lst (shl (M ++ [q])) (M ++ [q]).length (.ch c)) :=by
 rw [qst,List.length_append]
 exact WkVs.lst (xs :=shl M ++ [v]) (ys :=shl M ++ [saA q]) (WkVs.app (zs :=[v]) (WkVs.refl _) ⟨e,trivial⟩) _ _
theorem qvk (q:Ts) {v:AV} (e:WkV v (saA q)) (c:Nat):WkV (AV.lst [v] (0 + 1) (.ch c)) (.lst (shl [q]) [q].length (.ch c)) :=WkVs.lst (xs :=[v]) (ys :=shl [q]) ⟨e,trivial⟩ _ _
theorem qqw (M:List Ts) (q:Ts):AObj.chain (M.length + (0 + 1)) 1 68 = .chain (M ++ [q]).length 1 68 :=by
 rw [List.length_append];rfl
theorem qpk {tr:Nat → Nat × Nat → Option (List (Nat × Nat))} {f:Nat × Nat}:∀ m,rndM tr f [] m = []
 | 0 => rfl
 |m + 1 => by
  rw [rndM,qpk m]
  cases tr (m + 1) f <;> rfl
theorem qt5 {α:Type} (l:List α):l = [] ∨ ∃ x r,l = x :: r :=by
 cases l with
 |nil => exact .inl rfl
 |cons x r => exact .inr ⟨x,r,rfl⟩
theorem qie {tr:Nat → Nat × Nat → Option (List (Nat × Nat))} {f:Nat × Nat} {A:List Ts} {m:Nat} (h:1 ≤ m):rndM tr f A m = rndM tr f A (m - 1) ++ (match tr m f with | none => [] | some u => A.map (· ++ [u])) :=by
 obtain ⟨k,rfl⟩ : ∃ k,m = k + 1 :=⟨m - 1,by omega⟩
 rfl
theorem qnt {N:AV} {l:List Int} (hN:IL N l) (hl:l.length < 4611686018427387904) (a b P:Nat) (s:Int) (ho:rOk (Int.ofNat a) (Int.ofNat b) (Int.ofNat P) s l) (fs:List (Nat × Nat)) (hf:1 ≤ fs.length ∧ fs.length ≤ 3) (hfb:∀ f,f ∈ fs → f.1 ≤ 50000 ∧ 1 ≤ f.2 ∧ f.2 ≤ 50000) (Q t:Nat) (_hQ:Q ≤ 9) (ht:t ≤ 10000) :
  Pure prog 47 [rv (Int.ofNat a) (Int.ofNat b) (Int.ofNat P) s N,pv (zp fs),nv Q,nv t] (shO2 (fldD Q t fs none (allL (trS a b l s) P [[]] fs))) :=by
 have lf :=qag (zp fs)
 have lR :=qyr (fldD Q t fs none (allL (trS a b l s) P [[]] fs))
 have hzf :=qa9 fs
 have lN :=hN.no
 have ho' :=ho
 obtain ⟨⟨h1,h2⟩,⟨h3,h4⟩,h5,⟨h6,h7⟩,h8,h9⟩ :=ho
 have h7:(P:Int) ≤ 3 :=h7
 have h1:4 ≤ (a:Int) :=h1
 have h4:(b:Int) ≤ 60 :=h4
 have h5:(a:Int) ≤ (b:Int) :=h5
 have htr :=qsg (a :=a) (b :=b) l s (by omega) (by omega) (p :=P) (by omega) hfb
 have pn:∀ (m:Nat) (f:Nat × Nat),1 ≤ m → m ≤ P → f ∈ fs → Pure prog 35 [rv (Int.ofNat a) (Int.ofNat b) (Int.ofNat m) s N,fv (Int.ofNat f.1) (Int.ofNat f.2)] (fV (trS a b l s m f)) :=fun m f k1 k2 hm => by
  have hb :=hfb f hm
  have p :=qkr hN hl a b (by omega) (by omega) (by omega) m (by omega) s h8 f.1 f.2 hb.1 hb.2
  rwa [qwm (g :=qav s) fun k q1 q2 => ⟨fun z => z.2,fun z => ⟨⟨by omega,by show (k:Int) ≤ (m:Int);omega⟩,z⟩⟩] at p
 have pF :=fun m => qut (Int.ofNat a) (Int.ofNat b) (Int.ofNat P) s m hN
 generalize trS a b l s = tr at *
 clear h1 h2 h3 h4 h5 h6 h8 h9 ho'
 have key:∀ N',(N' = .nils ∨ N' = nl l) → N' = N → Pure prog 47 [rv (Int.ofNat a) (Int.ofNat b) (Int.ofNat P) s N',pv (zp fs),nv Q,nv t] (shO2 (fldD Q t fs none (allL tr P [[]] fs))) :=by
  rintro N' hN' rfl
  rcases hN' with rfl | rfl
  all_goals
   refine qs7 hE rfl zL zL fun S q pc hS hq hC hE => ?_
   conv=>whnf
   refine qb2 hS (qau hE hS ?_)
   conv=>whnf
   refine qb2 hS (qau hE hS ?_)
   conv=>whnf
   refine qd1 hS (A :=List Ts) [1,2,3,4] (fun A => [(10,alA A)]) (fun _ => []) (fun _ => []) (fun A => A = allL tr P [[]] fs ∧ A.length ≤ 27) (Nat.le_of_ble_eq_true rfl) ?_ ?_
   ·refine qb2 hS (qau hE hS ?_)
    conv=>whnf
    refine qdb hS (qsk (f :=fun _ _ => False) hS ?_)
    refine qgu hS (A :=Nat × List Ts) [] (fun x hx => nomatch hx) [1,2,3,4] (fun (i,A) => [(10,alA A),(11,nv i)]) (fun _ => []) (fun _ => []) (fun (i,A) => i ≤ fs.length ∧ allL tr P A (fs.drop i) = allL tr P [[]] fs ∧ (A.length ≤ 3 ^ i) ∧ ∀ a,a ∈ A → a.length ≤ i ∧ ∀ u,u ∈ a → gT u) (fun (i,_) => fs.length - i) (0,[[]]) (Nat.le_of_ble_eq_true rfl) trivial rfl (by exact zB) (by refine ⟨rfl,rfl,rfl,rfl,rfl,rfl,by decide,?_,?_,?_,by kernel_rfl,?_,?_⟩ <;> repeat' (first | exact ⟨_,rfl,RnV.wk (WkV.refl _) (bz (pv_no _))⟩ | exact ⟨_,rfl,RnV.wk (WkV.own _ _ _) (Nat.zero_le _)⟩ | exact zZ | apply And.intro)) ⟨Nat.zero_le _,rfl,Nat.le_refl _,fun x hx => by rw [List.mem_singleton.1 hx];exact ⟨Nat.le_refl _,fun _ h => nomatch h⟩⟩ ?_
    rintro ⟨i,A⟩ ⟨hi,he,hA,hAl⟩ M hM
    obtain rfl:M = 1 :=hM
    rcases A with _ | ⟨a0,A⟩
    ·refine qf3 fun K1 hK1 => ?_
     refine qb2 hS (qau hE hS ?_)
     conv=>whnf
     have hi1:i < fs.length → IntKind.i64.wrap (Int.ofNat i + 1) = Int.ofNat (i + 1) :=fun h => qa2 (m :=i + 1) (by omega)
     refine Or.elim (Classical.em (¬ i < fs.length)) (fun h => ?_) (fun h => ?_)
     ·have c1:decide (Int.ofNat i < ((zp fs).length:Int)) = false :=zF (by rw [hzf];show ¬ (i:Int) < _;omega)
      repeat ((first
       |refine qaz c1 ?_
       |refine qa0 c1 ?_
       |refine qac (qar c1) ?_
       |refine qad c1 ?_
       |refine zd hS ?_);conv=>whnf)
      rw [qdx (l :=fs) (by omega),allL] at he
      refine hK1 _ _ ?_
      conv=>whnf
      have h3i:(3:Nat) ^ i ≤ 3 ^ 3 :=Nat.pow_le_pow_right (by omega) (by omega)
      exact ⟨_,⟨he,Nat.le_trans hA h3i⟩,(by refine ⟨rfl,rfl,rfl,rfl,rfl,rfl,1,rfl,?_,?_⟩ <;> repeat' (first | exact qaj (qaw _) | exact zZ | apply And.intro))⟩
     have h :=Classical.not_not.1 h
     have c1:decide (Int.ofNat i < ((zp fs).length:Int)) = true :=zT (by rw [hzf];show (i:Int) < _;omega)
     repeat ((first
      |refine qam c1 ?_
      |refine qal c1 ?_
      |refine qac (qah c1) ?_
      |refine qaa c1 ?_
      |refine zd hS ?_);conv=>whnf)
     have hmf :=qfr fs h
     have h27 :=Nat.le_trans hA (Nat.pow_le_pow_right (n :=3) (by omega) (show i ≤ 3 by omega))
     have hif:i < (zp fs).length :=by omega
     rw [qcc fs h,allL] at he
     refine qd1 hS (A :=List Ts) [1,2,3,4,11] (fun X => [(10,alA X)]) (fun _ => []) (fun _ => []) (fun X => X = rndM tr (gq fs i) [] P) (Nat.le_of_ble_eq_true rfl) (qdb hS ?_) ?_
     ·refine qb2 hS (qau hE hS ?_)
      conv=>whnf
      refine qd1 hS (A :=List Ts) [1,2,3,4,11] (fun X => [(12,alA X)]) (fun _ => []) (fun _ => []) (fun X => X = rndM tr (gq fs i) [] P) (Nat.le_of_ble_eq_true rfl) ?_ ?_
      ·refine qb2 hS (qau hE hS ?_)
       conv=>whnf
       refine qdb hS (qsk (f :=fun _ _ => False) hS ?_)
       refine qgu hS (A :=Nat × List Ts × AV × List AObj) [] (fun x hx => nomatch hx) [1,2,3,4,10,11] (fun (m,X,v,_) => [(12,v),(13,nv m)]) (fun _ => []) (fun a => a.2.2.2) (fun (m,X,v,ux) => (1 ≤ m ∧ m ≤ P + 1) ∧ X = rndM tr (gq fs i) [] (m - 1) ∧ nxV X v ux) (fun (m,_) => P + 1 - m) (1,[],.nils,[]) (Nat.le_of_ble_eq_true rfl) trivial rfl (by repeat' (first | exact qaj (qaw _) | exact ⟨_,rfl,RnV.wk (WkV.refl _) (bz (pv_no _))⟩ | exact ⟨_,rfl,RnV.wk (WkV.refl _) (bz (qb0 (a0 :: A)))⟩ | exact ⟨_,rfl,RnV.wk (WkV.refl _) (bz (qb0 _))⟩ | exact zZ | apply And.intro)) (by refine ⟨rfl,rfl,rfl,rfl,rfl,rfl,by decide,?_,?_,?_,by kernel_rfl,?_,?_⟩ <;> repeat' (first | exact qaj (qaw _) | exact ⟨_,rfl,RnV.wk (WkV.refl _) (bz (pv_no _))⟩ | exact ⟨_,rfl,RnV.wk (WkV.refl _) (bz (qb0 (a0 :: A)))⟩ | exact ⟨_,rfl,RnV.wk (WkV.refl _) (bz (qb0 _))⟩ | exact zZ | apply And.intro)) ⟨⟨Nat.le_refl _,by omega⟩,rfl,.inl ⟨rfl,rfl,rfl⟩⟩ ?_
       rintro ⟨m,X,v,ux⟩ ⟨⟨hm1,hm2⟩,hX,⟨hx0,rfl,rfl⟩ | ⟨hxn,rfl,jx,rfl⟩⟩ M hM
       ·obtain rfl:M = 1 :=hM
        refine qf3 fun K3 hK3 => ?_
        refine qb2 hS (qau hE hS ?_)
        conv=>whnf
        refine Or.elim (Classical.em (¬ m ≤ P)) (fun g => ?_) (fun g => ?_)
        ·have c2:decide (Int.ofNat m ≤ Int.ofNat P) = false :=zF (by show ¬ (m:Int) ≤ (P:Int);omega)
         repeat ((first
          |refine qaz c2 ?_
          |refine qa0 c2 ?_
          |refine qac (qar c2) ?_
          |refine qad c2 ?_
          |refine zd hS ?_);conv=>whnf)
         refine hK3 _ _ ?_
         conv=>whnf
         have hX2:X = rndM tr (gq fs i) [] P :=by rw [hX,show m - 1 = P by omega]
         subst hx0
         exact ⟨[],hX2,(by refine ⟨rfl,rfl,rfl,rfl,rfl,rfl,1,rfl,?_,?_⟩ <;> repeat' (first | exact qaj (qaw _) | exact Nat.max_le.2 ⟨Nat.le_of_ble_eq_true rfl,qaj (qaw _)⟩ | exact zZ | apply And.intro))⟩
        ·have g :=Classical.not_not.1 g
         have c2:decide (Int.ofNat m ≤ Int.ofNat P) = true :=zT (by show (m:Int) ≤ (P:Int);omega)
         repeat ((first
          |refine qam c2 ?_
          |refine qal c2 ?_
          |refine qac (qah c2) ?_
          |refine qaa c2 ?_
          |refine zd hS ?_);conv=>whnf)
         have p :=pn m (gq fs i) hm1 g hmf
         have pf :=pF (Int.ofNat m)
         have hT :=htr.tv m (gq fs i)
         refine qb2 hS (qdb hS ?_)
         refine qd1 hS (A :=Option (List (Nat × Nat))) [1,2,3,4,10,11,12,13] (fun o => [(14,xV o),(15,.bool o.isSome)]) (fun _ => []) (fun _ => []) (fun o => o = tr m (gq fs i)) (Nat.le_of_ble_eq_true rfl) (qau hE hS ?_) ?_
         ·conv=>whnf
          refine Or.elim (qtt (tr m (gq fs i))) (fun e => ?_) (fun z => Exists.elim z fun u e => ?_)
          ·rw [e] at p
           have p:Pure prog 35 [_,_] (.tup [.nils,.bool false]) :=p
           repeat ((first
            |refine qac (takP (qbw fs h)) ?_
            |refine qam (qaf hif) ?_
            |refine qal (qaf hif) ?_
            |refine qac (qah (qaf hif)) ?_
            |refine qaa (qaf hif) ?_
            |refine qab hC (pf) ?_
            |refine qab hC (p) ?_
            |refine zd hS ?_);conv=>whnf)
           exact ⟨none,e.symm,(by refine ⟨rfl,rfl,rfl,rfl,rfl,rfl,1,rfl,?_,?_⟩ <;> repeat' (first | exact qaj (qaw _) | exact Nat.max_le.2 ⟨Nat.le_of_ble_eq_true rfl,qaj (qaw _)⟩ | exact zZ | apply And.intro))⟩
          ·rw [e] at p
           have hu :=hT u hm1 g hmf e
           have p:Pure prog 35 [_,_] (.tup [trA u,.bool true]) :=p
           rw [qg8 (fun z => by rw [z] at hu;exact absurd hu.1 (by decide))] at p
           have lu :=qag (zp u)
           repeat ((first
            |refine qac (takP (qbw fs h)) ?_
            |refine qam (qaf hif) ?_
            |refine qal (qaf hif) ?_
            |refine qac (qah (qaf hif)) ?_
            |refine qaa (qaf hif) ?_
            |refine qab hC (pf) ?_
            |refine qab hC (p) ?_
            |refine zd hS ?_);conv=>whnf)
           exact ⟨some u,e.symm,(by refine ⟨rfl,rfl,rfl,rfl,rfl,rfl,1,rfl,?_,?_⟩ <;> repeat' (first | exact qaj (qaw _) | exact Nat.max_le.2 ⟨Nat.le_of_ble_eq_true rfl,qaj (qaw _)⟩ | exact zZ | apply And.intro))⟩
         ·rintro o ho M rfl
          have hst :=qie (tr :=tr) (f :=gq fs i) (A :=[]) hm1
          rw [← hX,← ho] at hst
          rcases o with _ | u
          ·refine qau hE hS ?_
           conv=>whnf
           refine qae hE hS ?_
           conv=>whnf
           have hX3:X = rndM tr (gq fs i) [] (m + 1 - 1) :=by rw [Nat.add_sub_cancel,hst];exact (List.append_nil X).symm
           refine qau hE hS ?_
           conv=>whnf
           refine hK3 _ _ ?_
           conv=>whnf
           exact ⟨(m + 1,X,_,[]),[],⟨⟨by omega,by omega⟩,hX3,.inl ⟨hx0,rfl,rfl⟩⟩,by show P + 1 - (m + 1) < P + 1 - m;omega,(by refine ⟨rfl,rfl,rfl,rfl,rfl,rfl,by decide,?_,?_,?_,by kernel_rfl,?_,?_⟩ <;> repeat' (first | exact ⟨_,rfl,rnC (j :=1) (by decide) rfl rfl (qaw _)⟩ | exact qaj (qaw _) | exact Nat.max_le.2 ⟨Nat.le_of_ble_eq_true rfl,qaj (qaw _)⟩ | exact ⟨_,rfl,RnV.wk (WkV.refl _) (bz (pv_no _))⟩ | exact ⟨_,rfl,RnV.wk (WkV.refl _) (bz (qb0 (a0 :: A)))⟩ | exact ⟨_,rfl,RnV.wk (WkV.int (qa2 (m :=m + 1) (by omega))) (Nat.zero_le _)⟩ | exact ⟨_,rfl,RnV.wk (WkV.refl _) (Nat.max_le.2 ⟨Nat.le_of_ble_eq_true rfl,qaj (qaw _)⟩)⟩ | exact zZ | apply And.intro))⟩
          ·have lu :=qag (zp u)
           refine qau hE hS ?_
           conv=>whnf
           refine qae hE hS ?_
           conv=>whnf
           have hX3:X = rndM tr (gq fs i) [] (m + 1 - 1) :=by rw [Nat.add_sub_cancel,hst];exact (List.append_nil X).symm
           refine qau hE hS ?_
           conv=>whnf
           refine hK3 _ _ ?_
           conv=>whnf
           exact ⟨(m + 1,X,_,[]),[],⟨⟨by omega,by omega⟩,hX3,.inl ⟨hx0,rfl,rfl⟩⟩,by show P + 1 - (m + 1) < P + 1 - m;omega,(by refine ⟨rfl,rfl,rfl,rfl,rfl,rfl,by decide,?_,?_,?_,by kernel_rfl,?_,?_⟩ <;> repeat' (first | exact ⟨_,rfl,rnC (j :=1) (by decide) rfl rfl (qaw _)⟩ | exact qaj (qaw _) | exact Nat.max_le.2 ⟨Nat.le_of_ble_eq_true rfl,qaj (qaw _)⟩ | exact ⟨_,rfl,RnV.wk (WkV.refl _) (bz (pv_no _))⟩ | exact ⟨_,rfl,RnV.wk (WkV.refl _) (bz (qb0 (a0 :: A)))⟩ | exact ⟨_,rfl,RnV.wk (WkV.int (qa2 (m :=m + 1) (by omega))) (Nat.zero_le _)⟩ | exact ⟨_,rfl,RnV.wk (WkV.refl _) (Nat.max_le.2 ⟨Nat.le_of_ble_eq_true rfl,qaj (qaw _)⟩)⟩ | exact zZ | apply And.intro))⟩
       ·obtain rfl:M = 3 :=hM
        exact absurd (hX.trans (qpk _)) hxn
      ·rintro X hX M rfl
       cases X
       all_goals
        refine qau hE hS ?_
        conv=>whnf
        exact ⟨_,hX,(by refine ⟨rfl,rfl,rfl,rfl,rfl,rfl,1,rfl,?_,?_⟩ <;> repeat' (first | exact qaj (qaw _) | exact zZ | apply And.intro))⟩
     ·rintro X hX M rfl
      have hXl :=qht (tr :=tr) (f :=gq fs i) (A :=[]) P
      rw [← hX] at he hXl
      have h3i:X.length ≤ 3 ^ (i + 1) :=by rw [Nat.pow_succ,Nat.mul_comm];exact Nat.le_trans hXl (Nat.mul_le_mul (by omega) hA)
      have hXm:∀ x,x ∈ X → x.length ≤ i + 1 ∧ ∀ u,u ∈ x → gT u :=fun x hx => by
       rw [hX] at hx
       obtain ⟨n,u,y,k1,k2,k3,rfl⟩ :=qf6.1 hx
       have hy :=hAl y k3
       refine ⟨by rw [List.length_append];show _ + 1 ≤ _;omega,fun w hw => ?_⟩
       rcases List.mem_append.1 hw with z | z
       ·exact hy.2 w z
       ·rw [List.mem_singleton.1 z];exact htr.tv n _ u k1.1 k1.2 hmf k2
      clear hX
      cases X
      all_goals
       refine qau hE hS ?_
       conv=>whnf
       refine hK1 _ _ ?_
       conv=>whnf
       exact ⟨(i + 1,_),[],⟨h,he,h3i,hXm⟩,by show fs.length - (i + 1) < fs.length - i;omega,(by refine ⟨rfl,rfl,rfl,rfl,rfl,rfl,by decide,?_,?_,?_,by kernel_rfl,?_,?_⟩ <;> repeat' (first | exact qaj (qaw _) | exact ⟨_,rfl,RnV.wk (WkV.refl _) (bz (pv_no _))⟩ | exact ⟨_,rfl,RnV.wk (WkV.refl _) (bz (qb0 (a0 :: A)))⟩ | exact ⟨_,rfl,RnV.wk (WkV.refl _) (bz (qb0 _))⟩ | exact ⟨_,rfl,RnV.wk (WkV.int (hi1 h)) (Nat.zero_le _)⟩ | exact zZ | apply And.intro))⟩
    ·refine qf3 fun K1 hK1 => ?_
     refine qb2 hS (qau hE hS ?_)
     conv=>whnf
     have hi1:i < fs.length → IntKind.i64.wrap (Int.ofNat i + 1) = Int.ofNat (i + 1) :=fun h => qa2 (m :=i + 1) (by omega)
     refine Or.elim (Classical.em (¬ i < fs.length)) (fun h => ?_) (fun h => ?_)
     ·have c1:decide (Int.ofNat i < ((zp fs).length:Int)) = false :=zF (by rw [hzf];show ¬ (i:Int) < _;omega)
      repeat ((first
       |refine qaz c1 ?_
       |refine qa0 c1 ?_
       |refine qac (qar c1) ?_
       |refine qad c1 ?_
       |refine zd hS ?_);conv=>whnf)
      rw [qdx (l :=fs) (by omega),allL] at he
      refine hK1 _ _ ?_
      conv=>whnf
      have h3i:(3:Nat) ^ i ≤ 3 ^ 3 :=Nat.pow_le_pow_right (by omega) (by omega)
      exact ⟨_,⟨he,Nat.le_trans hA h3i⟩,(by refine ⟨rfl,rfl,rfl,rfl,rfl,rfl,1,rfl,?_,?_⟩ <;> repeat' (first | exact qaj (qaw _) | exact zZ | apply And.intro))⟩
     have h :=Classical.not_not.1 h
     have c1:decide (Int.ofNat i < ((zp fs).length:Int)) = true :=zT (by rw [hzf];show (i:Int) < _;omega)
     repeat ((first
      |refine qam c1 ?_
      |refine qal c1 ?_
      |refine qac (qah c1) ?_
      |refine qaa c1 ?_
      |refine zd hS ?_);conv=>whnf)
     have hmf :=qfr fs h
     have h27 :=Nat.le_trans hA (Nat.pow_le_pow_right (n :=3) (by omega) (show i ≤ 3 by omega))
     have hif:i < (zp fs).length :=by omega
     rw [qcc fs h,allL] at he
     refine qd1 hS (A :=List Ts) [1,2,3,4,11] (fun X => [(10,alA X)]) (fun _ => []) (fun _ => []) (fun X => X = rndM tr (gq fs i) (a0 :: A) P) (Nat.le_of_ble_eq_true rfl) (qdb hS ?_) ?_
     ·refine qb2 hS (qau hE hS ?_)
      conv=>whnf
      refine qd1 hS (A :=List Ts) [1,2,3,4,11] (fun X => [(12,alA X)]) (fun _ => []) (fun _ => []) (fun X => X = rndM tr (gq fs i) (a0 :: A) P) (Nat.le_of_ble_eq_true rfl) ?_ ?_
      ·refine qb2 hS (qau hE hS ?_)
       conv=>whnf
       refine qdb hS (qsk (f :=fun _ _ => False) hS ?_)
       refine qgu hS (A :=Nat × List Ts × AV × List AObj) [] (fun x hx => nomatch hx) [1,2,3,4,10,11] (fun (m,X,v,_) => [(12,v),(13,nv m)]) (fun _ => []) (fun a => a.2.2.2) (fun (m,X,v,ux) => (1 ≤ m ∧ m ≤ P + 1) ∧ X = rndM tr (gq fs i) (a0 :: A) (m - 1) ∧ nxV X v ux) (fun (m,_) => P + 1 - m) (1,[],.nils,[]) (Nat.le_of_ble_eq_true rfl) trivial rfl (by repeat' (first | exact qaj (qaw _) | exact ⟨_,rfl,RnV.wk (WkV.refl _) (bz (pv_no _))⟩ | exact ⟨_,rfl,RnV.wk (WkV.refl _) (bz (qb0 (a0 :: A)))⟩ | exact ⟨_,rfl,RnV.wk (WkV.refl _) (bz (qb0 _))⟩ | exact zZ | apply And.intro)) (by refine ⟨rfl,rfl,rfl,rfl,rfl,rfl,by decide,?_,?_,?_,by kernel_rfl,?_,?_⟩ <;> repeat' (first | exact qaj (qaw _) | exact ⟨_,rfl,RnV.wk (WkV.refl _) (bz (pv_no _))⟩ | exact ⟨_,rfl,RnV.wk (WkV.refl _) (bz (qb0 (a0 :: A)))⟩ | exact ⟨_,rfl,RnV.wk (WkV.refl _) (bz (qb0 _))⟩ | exact zZ | apply And.intro)) ⟨⟨Nat.le_refl _,by omega⟩,rfl,.inl ⟨rfl,rfl,rfl⟩⟩ ?_
       rintro ⟨m,X,v,ux⟩ ⟨⟨hm1,hm2⟩,hX,⟨hx0,rfl,rfl⟩ | ⟨hxn,rfl,jx,rfl⟩⟩ M hM
       ·obtain rfl:M = 1 :=hM
        refine qf3 fun K3 hK3 => ?_
        refine qb2 hS (qau hE hS ?_)
        conv=>whnf
        refine Or.elim (Classical.em (¬ m ≤ P)) (fun g => ?_) (fun g => ?_)
        ·have c2:decide (Int.ofNat m ≤ Int.ofNat P) = false :=zF (by show ¬ (m:Int) ≤ (P:Int);omega)
         repeat ((first
          |refine qaz c2 ?_
          |refine qa0 c2 ?_
          |refine qac (qar c2) ?_
          |refine qad c2 ?_
          |refine zd hS ?_);conv=>whnf)
         refine hK3 _ _ ?_
         conv=>whnf
         have hX2:X = rndM tr (gq fs i) (a0 :: A) P :=by rw [hX,show m - 1 = P by omega]
         subst hx0
         exact ⟨[],hX2,(by refine ⟨rfl,rfl,rfl,rfl,rfl,rfl,1,rfl,?_,?_⟩ <;> repeat' (first | exact qaj (qaw _) | exact Nat.max_le.2 ⟨Nat.le_of_ble_eq_true rfl,qaj (qaw _)⟩ | exact zZ | apply And.intro))⟩
        ·have g :=Classical.not_not.1 g
         have c2:decide (Int.ofNat m ≤ Int.ofNat P) = true :=zT (by show (m:Int) ≤ (P:Int);omega)
         repeat ((first
          |refine qam c2 ?_
          |refine qal c2 ?_
          |refine qac (qah c2) ?_
          |refine qaa c2 ?_
          |refine zd hS ?_);conv=>whnf)
         have p :=pn m (gq fs i) hm1 g hmf
         have pf :=pF (Int.ofNat m)
         have hT :=htr.tv m (gq fs i)
         refine qb2 hS (qdb hS ?_)
         refine qd1 hS (A :=Option (List (Nat × Nat))) [1,2,3,4,10,11,12,13] (fun o => [(14,xV o),(15,.bool o.isSome)]) (fun _ => []) (fun _ => []) (fun o => o = tr m (gq fs i)) (Nat.le_of_ble_eq_true rfl) (qau hE hS ?_) ?_
         ·conv=>whnf
          refine Or.elim (qtt (tr m (gq fs i))) (fun e => ?_) (fun z => Exists.elim z fun u e => ?_)
          ·rw [e] at p
           have p:Pure prog 35 [_,_] (.tup [.nils,.bool false]) :=p
           repeat ((first
            |refine qac (takP (qbw fs h)) ?_
            |refine qam (qaf hif) ?_
            |refine qal (qaf hif) ?_
            |refine qac (qah (qaf hif)) ?_
            |refine qaa (qaf hif) ?_
            |refine qab hC (pf) ?_
            |refine qab hC (p) ?_
            |refine zd hS ?_);conv=>whnf)
           exact ⟨none,e.symm,(by refine ⟨rfl,rfl,rfl,rfl,rfl,rfl,1,rfl,?_,?_⟩ <;> repeat' (first | exact qaj (qaw _) | exact Nat.max_le.2 ⟨Nat.le_of_ble_eq_true rfl,qaj (qaw _)⟩ | exact zZ | apply And.intro))⟩
          ·rw [e] at p
           have hu :=hT u hm1 g hmf e
           have p:Pure prog 35 [_,_] (.tup [trA u,.bool true]) :=p
           rw [qg8 (fun z => by rw [z] at hu;exact absurd hu.1 (by decide))] at p
           have lu :=qag (zp u)
           repeat ((first
            |refine qac (takP (qbw fs h)) ?_
            |refine qam (qaf hif) ?_
            |refine qal (qaf hif) ?_
            |refine qac (qah (qaf hif)) ?_
            |refine qaa (qaf hif) ?_
            |refine qab hC (pf) ?_
            |refine qab hC (p) ?_
            |refine zd hS ?_);conv=>whnf)
           exact ⟨some u,e.symm,(by refine ⟨rfl,rfl,rfl,rfl,rfl,rfl,1,rfl,?_,?_⟩ <;> repeat' (first | exact qaj (qaw _) | exact Nat.max_le.2 ⟨Nat.le_of_ble_eq_true rfl,qaj (qaw _)⟩ | exact zZ | apply And.intro))⟩
         ·rintro o ho M rfl
          have hst :=qie (tr :=tr) (f :=gq fs i) (A :=(a0 :: A)) hm1
          rw [← hX,← ho] at hst
          rcases o with _ | u
          ·refine qau hE hS ?_
           conv=>whnf
           refine qae hE hS ?_
           conv=>whnf
           have cz:decide ((0:Int) < ((a0 :: A).length:Int)) = true :=zT (by rw [List.length_cons];omega)
           repeat ((first
            |refine qam cz ?_
            |refine qal cz ?_
            |refine qac (qah cz) ?_
            |refine qaa cz ?_
            |refine zd hS ?_);conv=>whnf)
           have hX3:X = rndM tr (gq fs i) (a0 :: A) (m + 1 - 1) :=by rw [Nat.add_sub_cancel,hst];exact (List.append_nil X).symm
           refine qau hE hS ?_
           conv=>whnf
           refine hK3 _ _ ?_
           conv=>whnf
           exact ⟨(m + 1,X,_,[]),[],⟨⟨by omega,by omega⟩,hX3,.inl ⟨hx0,rfl,rfl⟩⟩,by show P + 1 - (m + 1) < P + 1 - m;omega,(by refine ⟨rfl,rfl,rfl,rfl,rfl,rfl,by decide,?_,?_,?_,by kernel_rfl,?_,?_⟩ <;> repeat' (first | exact ⟨_,rfl,rnC (j :=1) (by decide) rfl rfl (qaw _)⟩ | exact qaj (qaw _) | exact Nat.max_le.2 ⟨Nat.le_of_ble_eq_true rfl,qaj (qaw _)⟩ | exact ⟨_,rfl,RnV.wk (WkV.refl _) (bz (pv_no _))⟩ | exact ⟨_,rfl,RnV.wk (WkV.refl _) (bz (qb0 (a0 :: A)))⟩ | exact ⟨_,rfl,RnV.wk (WkV.int (qa2 (m :=m + 1) (by omega))) (Nat.zero_le _)⟩ | exact ⟨_,rfl,RnV.wk (WkV.refl _) (Nat.max_le.2 ⟨Nat.le_of_ble_eq_true rfl,qaj (qaw _)⟩)⟩ | exact zZ | apply And.intro))⟩
          ·have lu :=qag (zp u)
           refine qau hE hS ?_
           conv=>whnf
           refine qbe hE hS (A :=Nat × List Ts × AV × List AObj) [1,2,3,4,10,11,13,14,15] (fun (k,_,v,_) => [(12,v),(16,nv k)]) (fun _ => []) (fun a => a.2.2.2) (fun (k,Y,v,ux) => k ≤ (a0 :: A).length ∧ Y = ((a0 :: A).take k).map (· ++ [u]) ∧ nxV Y v ux) (fun (k,_) => (a0 :: A).length - k) (0,[],.nils,[]) (Nat.le_of_ble_eq_true rfl) rfl (by refine ⟨rfl,rfl,rfl,rfl,rfl,rfl,1,rfl,?_,?_⟩ <;> repeat' (first | exact qaj (qaw _) | exact Nat.max_le.2 ⟨Nat.le_of_ble_eq_true rfl,qaj (qaw _)⟩ | exact bz (qb0 (a0 :: A)) | exact bz (pv_no _) | exact zZ | apply And.intro)) ⟨Nat.zero_le _,rfl,.inl ⟨rfl,rfl,rfl⟩⟩ ?_
           rintro ⟨k,Y,v,ux⟩ ⟨hk,hY,⟨hyn,rfl,rfl⟩ | ⟨hyn,rfl,jy,rfl⟩⟩ M hM
           ·obtain rfl:M = 1 :=hM
            have hk1:IntKind.i64.wrap (Int.ofNat k + 1) = Int.ofNat (k + 1) :=qa2 (m :=k + 1) (by omega)
            conv=>whnf
            refine Or.elim (Classical.em (¬ k < (a0 :: A).length)) (fun hkl => ?_) (fun hkl => ?_)
            ·have hX3:Y = rndM tr (gq fs i) (a0 :: A) (m + 1 - 1) :=by rw [Nat.add_sub_cancel,hst,hx0,hY,List.take_of_length_le (by omega)];rfl
             have c3:decide (Int.ofNat k < ((a0 :: A).length:Int)) = false :=zF (by show ¬ (k:Int) < _;omega)
             repeat ((first
              |refine qaz c3 ?_
              |refine qa0 c3 ?_
              |refine qac (qar c3) ?_
              |refine qad c3 ?_
              |refine zd hS ?_);conv=>whnf)
             refine .inl ?_
             conv=>whnf
             refine qau hE hS ?_
             conv=>whnf
             refine hK3 _ _ ?_
             conv=>whnf
             exact ⟨(m + 1,Y,.nils,[]),[],⟨⟨by omega,by omega⟩,hX3,.inl ⟨hyn,rfl,rfl⟩⟩,by show P + 1 - (m + 1) < P + 1 - m;omega,(by refine ⟨rfl,rfl,rfl,rfl,rfl,rfl,by decide,?_,?_,?_,by kernel_rfl,?_,?_⟩ <;> repeat' (first | exact ⟨_,rfl,rnC (j :=1) (by decide) rfl rfl (qaw _)⟩ | exact qaj (qaw _) | exact Nat.max_le.2 ⟨Nat.le_of_ble_eq_true rfl,qaj (qaw _)⟩ | exact ⟨_,rfl,RnV.wk (WkV.refl _) (bz (pv_no _))⟩ | exact ⟨_,rfl,RnV.wk (WkV.refl _) (bz (qb0 (a0 :: A)))⟩ | exact ⟨_,rfl,RnV.wk (WkV.int (qa2 (m :=m + 1) (by omega))) (Nat.zero_le _)⟩ | exact ⟨_,rfl,RnV.wk (WkV.refl _) (Nat.max_le.2 ⟨Nat.le_of_ble_eq_true rfl,qaj (qaw _)⟩)⟩ | exact zZ | apply And.intro))⟩
            ·have hkl :=Classical.not_not.1 hkl
             have c3:decide (Int.ofNat k < ((a0 :: A).length:Int)) = true :=zT (by show (k:Int) < _;omega)
             have hga :=hAl _ (qm0 _ hkl)
             refine Or.elim (qt5 (gA (a0 :: A) k)) (fun ea => ?_) (fun z => Exists.elim z fun w0 z => Exists.elim z fun w ea => ?_)
             ·have n1:nth (shl (a0 :: A)) (k * 1) = some .nils :=by rw [Nat.mul_one,qer _ _ hkl,ea];rfl
              repeat ((first
               |refine qac (nthP n1) ?_
               |refine qam c3 ?_
               |refine qal c3 ?_
               |refine qac (qah c3) ?_
               |refine qaa c3 ?_
               |refine qam (qaf hkl) ?_
               |refine qal (qaf hkl) ?_
               |refine qac (qah (qaf hkl)) ?_
               |refine qaa (qaf hkl) ?_
               |refine zd hS ?_);conv=>whnf)
              have hel:WkV (.lst [pv (zp u)] (0 + 1) (.ch 1)) (saA (gA (a0 :: A) k ++ [u])) :=by rw [ea];exact WkV.own _ _ _
              exact ⟨(k + 1,[gA (a0 :: A) k ++ [u]],.lst (shl [gA (a0 :: A) k ++ [u]]) [gA (a0 :: A) k ++ [u]].length (.ch 2),[.chain _ 1 22,.chain [gA (a0 :: A) k ++ [u]].length 1 68]),⟨hkl,by rw [qgs _ hkl,List.map_append,← hY,hyn];rfl,.inr ⟨List.cons_ne_nil _ _,rfl,_,rfl⟩⟩,by show (a0 :: A).length - (k + 1) < (a0 :: A).length - k;omega,Nat.zero_le _,(by refine ⟨rfl,rfl,rfl,rfl,rfl,rfl,3,rfl,?_,?_⟩ <;> repeat' (first | exact qaj (qaw _) | exact Nat.max_le.2 ⟨Nat.le_of_ble_eq_true rfl,qaj (qaw _)⟩ | exact bz (qb0 (a0 :: A)) | exact bz (pv_no _) | exact ⟨_,rfl,qvk _ hel _⟩ | exact zZ | apply And.intro))⟩
             ·have n1:nth (shl (a0 :: A)) (k * 1) = some (tlV (w0 :: w)) :=by rw [Nat.mul_one,qer _ _ hkl,ea];rfl
              have lw :=qba (w0 :: w)
              have hw3:w.length + 1 ≤ 3 :=by rw [ea] at hga;have :=hga.1;rw [List.length_cons] at this;omega
              repeat ((first
               |refine qac (nthP n1) ?_
               |refine qam c3 ?_
               |refine qal c3 ?_
               |refine qac (qah c3) ?_
               |refine qaa c3 ?_
               |refine qam (qaf hkl) ?_
               |refine qal (qaf hkl) ?_
               |refine qac (qah (qaf hkl)) ?_
               |refine qaa (qaf hkl) ?_
               |refine zd hS ?_);conv=>whnf)
              refine qac (qky (e :=22) (ys :=tls (w0 :: w)) (m :=(w0 :: w).length) (own :=.no) (l :=tls (w0 :: w)) (by kernel_rfl) rfl (qh8 _)) ?_
              conv=>whnf
              refine qaa (qd8 (w0 :: w)) ?_
              conv=>whnf
              refine qaa (zT (show (w.length + 1) * 24 ≤ 140737488355328 by omega)) ?_
              conv=>whnf
              refine qaa (zT (show w.length + 1 ≤ 9223372036854775807 by omega)) ?_
              conv=>whnf
              refine qaa (zT (show (w.length + 1 + (0 + 1)) * 24 ≤ 140737488355328 by omega)) ?_
              conv=>whnf
              refine qaa (zT (show w.length + 1 + (0 + 1) ≤ 9223372036854775807 by omega)) ?_
              conv=>whnf
              refine qaa (qgf (w0 :: w)) ?_
              conv=>whnf
              refine qaa (zT rfl) ?_
              conv=>whnf
              have hel:WkV (.lst (tls (w0 :: w) ++ [pv (zp u)]) (w.length + 1 + (0 + 1)) (.ch 1)) (saA (gA (a0 :: A) k ++ [u])) :=by
               rw [ea]
               show WkV _ (.lst (tls ((w0 :: w) ++ [u])) ((w0 :: w) ++ [u]).length .no)
               rw [qh6,List.length_append]
               exact WkV.own _ _ _
              exact ⟨(k + 1,[gA (a0 :: A) k ++ [u]],.lst (shl [gA (a0 :: A) k ++ [u]]) [gA (a0 :: A) k ++ [u]].length (.ch 2),[.chain _ 1 22,.chain [gA (a0 :: A) k ++ [u]].length 1 68]),⟨hkl,by rw [qgs _ hkl,List.map_append,← hY,hyn];rfl,.inr ⟨List.cons_ne_nil _ _,rfl,_,rfl⟩⟩,by show (a0 :: A).length - (k + 1) < (a0 :: A).length - k;omega,Nat.zero_le _,(by refine ⟨rfl,rfl,rfl,rfl,rfl,rfl,3,rfl,?_,?_⟩ <;> repeat' (first | exact qaj (qaw _) | exact Nat.max_le.2 ⟨Nat.le_of_ble_eq_true rfl,qaj (qaw _)⟩ | exact bz (qb0 (a0 :: A)) | exact bz (pv_no _) | exact ⟨_,rfl,qvk _ hel _⟩ | exact zZ | apply And.intro))⟩
           ·obtain rfl:M = 3 :=hM
            have hYl:Y.length ≤ 27 :=by rw [hY,List.length_map,List.length_take];omega
            have hk1:IntKind.i64.wrap (Int.ofNat k + 1) = Int.ofNat (k + 1) :=qa2 (m :=k + 1) (by omega)
            conv=>whnf
            refine Or.elim (Classical.em (¬ k < (a0 :: A).length)) (fun hkl => ?_) (fun hkl => ?_)
            ·have hX3:Y = rndM tr (gq fs i) (a0 :: A) (m + 1 - 1) :=by rw [Nat.add_sub_cancel,hst,hx0,hY,List.take_of_length_le (by omega)];rfl
             have c3:decide (Int.ofNat k < ((a0 :: A).length:Int)) = false :=zF (by show ¬ (k:Int) < _;omega)
             repeat ((first
              |refine qaz c3 ?_
              |refine qa0 c3 ?_
              |refine qac (qar c3) ?_
              |refine qad c3 ?_
              |refine zd hS ?_);conv=>whnf)
             refine .inl ?_
             conv=>whnf
             refine qau hE hS ?_
             conv=>whnf
             refine hK3 _ _ ?_
             conv=>whnf
             exact ⟨(m + 1,Y,_,[.chain jy 1 22,.chain Y.length 1 68]),[1,2],⟨⟨by omega,by omega⟩,hX3,.inr ⟨hyn,rfl,_,rfl⟩⟩,by show P + 1 - (m + 1) < P + 1 - m;omega,(by refine ⟨rfl,rfl,rfl,rfl,rfl,rfl,by decide,?_,?_,?_,by kernel_rfl,?_,?_⟩ <;> repeat' (first | exact ⟨_,rfl,rnC (j :=1) (by decide) rfl rfl (qaw _)⟩ | exact qaj (qaw _) | exact Nat.max_le.2 ⟨Nat.le_of_ble_eq_true rfl,qaj (qaw _)⟩ | exact ⟨_,rfl,RnV.wk (WkV.refl _) (bz (pv_no _))⟩ | exact ⟨_,rfl,RnV.wk (WkV.refl _) (bz (qb0 (a0 :: A)))⟩ | exact ⟨_,rfl,RnV.wk (WkV.int (qa2 (m :=m + 1) (by omega))) (Nat.zero_le _)⟩ | exact ⟨_,rfl,RnV.wk (WkV.refl _) (Nat.max_le.2 ⟨Nat.le_of_ble_eq_true rfl,qaj (qaw _)⟩)⟩ | exact zZ | apply And.intro))⟩
            ·have hkl :=Classical.not_not.1 hkl
             have c3:decide (Int.ofNat k < ((a0 :: A).length:Int)) = true :=zT (by show (k:Int) < _;omega)
             have hga :=hAl _ (qm0 _ hkl)
             refine Or.elim (qt5 (gA (a0 :: A) k)) (fun ea => ?_) (fun z => Exists.elim z fun w0 z => Exists.elim z fun w ea => ?_)
             ·have n1:nth (shl (a0 :: A)) (k * 1) = some .nils :=by rw [Nat.mul_one,qer _ _ hkl,ea];rfl
              repeat ((first
               |refine qac (nthP n1) ?_
               |refine qam c3 ?_
               |refine qal c3 ?_
               |refine qac (qah c3) ?_
               |refine qaa c3 ?_
               |refine qam (qaf hkl) ?_
               |refine qal (qaf hkl) ?_
               |refine qac (qah (qaf hkl)) ?_
               |refine qaa (qaf hkl) ?_
               |refine zd hS ?_);conv=>whnf)
              have hel:WkV (.lst [pv (zp u)] (0 + 1) (.ch 3)) (saA (gA (a0 :: A) k ++ [u])) :=by rw [ea];exact WkV.own _ _ _
              refine qaa (zT (show (Y.length + (0 + 1)) * 24 ≤ 140737488355328 by omega)) ?_
              conv=>whnf
              refine qaa (zT (show Y.length + (0 + 1) ≤ 9223372036854775807 by omega)) ?_
              conv=>whnf
              refine qaa (qgg Y) ?_
              conv=>whnf
              refine qaa (zT rfl) ?_
              conv=>whnf
              exact ⟨(k + 1,Y ++ [gA (a0 :: A) k ++ [u]],.lst (shl (Y ++ [gA (a0 :: A) k ++ [u]])) (Y ++ [gA (a0 :: A) k ++ [u]]).length (.ch 2),[.chain jy 1 22,.chain (Y ++ [gA (a0 :: A) k ++ [u]]).length 1 68]),⟨hkl,by rw [qgs _ hkl,List.map_append,← hY];rfl,.inr ⟨by simp,rfl,_,rfl⟩⟩,by show (a0 :: A).length - (k + 1) < (a0 :: A).length - k;omega,Nat.le_refl _,(by refine ⟨rfl,rfl,rfl,rfl,rfl,rfl,3,rfl,?_,?_⟩ <;> repeat' (first | exact qaj (qaw _) | exact Nat.max_le.2 ⟨Nat.le_of_ble_eq_true rfl,qaj (qaw _)⟩ | exact bz (qb0 (a0 :: A)) | exact bz (pv_no _) | exact ⟨_,rfl,qqv _ _ hel _⟩ | exact qqw _ _ | exact zZ | apply And.intro))⟩
             ·have n1:nth (shl (a0 :: A)) (k * 1) = some (tlV (w0 :: w)) :=by rw [Nat.mul_one,qer _ _ hkl,ea];rfl
              have lw :=qba (w0 :: w)
              have hw3:w.length + 1 ≤ 3 :=by rw [ea] at hga;have :=hga.1;rw [List.length_cons] at this;omega
              repeat ((first
               |refine qac (nthP n1) ?_
               |refine qam c3 ?_
               |refine qal c3 ?_
               |refine qac (qah c3) ?_
               |refine qaa c3 ?_
               |refine qam (qaf hkl) ?_
               |refine qal (qaf hkl) ?_
               |refine qac (qah (qaf hkl)) ?_
               |refine qaa (qaf hkl) ?_
               |refine zd hS ?_);conv=>whnf)
              refine qac (qky (e :=22) (ys :=tls (w0 :: w)) (m :=(w0 :: w).length) (own :=.no) (l :=tls (w0 :: w)) (by kernel_rfl) rfl (qh8 _)) ?_
              conv=>whnf
              refine qaa (qd8 (w0 :: w)) ?_
              conv=>whnf
              refine qaa (zT (show (w.length + 1) * 24 ≤ 140737488355328 by omega)) ?_
              conv=>whnf
              refine qaa (zT (show w.length + 1 ≤ 9223372036854775807 by omega)) ?_
              conv=>whnf
              refine qaa (zT (show (w.length + 1 + (0 + 1)) * 24 ≤ 140737488355328 by omega)) ?_
              conv=>whnf
              refine qaa (zT (show w.length + 1 + (0 + 1) ≤ 9223372036854775807 by omega)) ?_
              conv=>whnf
              refine qaa (qgf (w0 :: w)) ?_
              conv=>whnf
              refine qaa (zT rfl) ?_
              conv=>whnf
              have hel:WkV (.lst (tls (w0 :: w) ++ [pv (zp u)]) (w.length + 1 + (0 + 1)) (.ch 3)) (saA (gA (a0 :: A) k ++ [u])) :=by
               rw [ea]
               show WkV _ (.lst (tls ((w0 :: w) ++ [u])) ((w0 :: w) ++ [u]).length .no)
               rw [qh6,List.length_append]
               exact WkV.own _ _ _
              refine qaa (zT (show (Y.length + (0 + 1)) * 24 ≤ 140737488355328 by omega)) ?_
              conv=>whnf
              refine qaa (zT (show Y.length + (0 + 1) ≤ 9223372036854775807 by omega)) ?_
              conv=>whnf
              refine qaa (qgg Y) ?_
              conv=>whnf
              refine qaa (zT rfl) ?_
              conv=>whnf
              exact ⟨(k + 1,Y ++ [gA (a0 :: A) k ++ [u]],.lst (shl (Y ++ [gA (a0 :: A) k ++ [u]])) (Y ++ [gA (a0 :: A) k ++ [u]]).length (.ch 2),[.chain jy 1 22,.chain (Y ++ [gA (a0 :: A) k ++ [u]]).length 1 68]),⟨hkl,by rw [qgs _ hkl,List.map_append,← hY];rfl,.inr ⟨by simp,rfl,_,rfl⟩⟩,by show (a0 :: A).length - (k + 1) < (a0 :: A).length - k;omega,Nat.le_refl _,(by refine ⟨rfl,rfl,rfl,rfl,rfl,rfl,3,rfl,?_,?_⟩ <;> repeat' (first | exact qaj (qaw _) | exact Nat.max_le.2 ⟨Nat.le_of_ble_eq_true rfl,qaj (qaw _)⟩ | exact bz (qb0 (a0 :: A)) | exact bz (pv_no _) | exact ⟨_,rfl,qqv _ _ hel _⟩ | exact qqw _ _ | exact zZ | apply And.intro))⟩
       ·obtain rfl:M = 3 :=hM
        refine qf3 fun K3 hK3 => ?_
        refine qb2 hS (qau hE hS ?_)
        conv=>whnf
        refine Or.elim (Classical.em (¬ m ≤ P)) (fun g => ?_) (fun g => ?_)
        ·have c2:decide (Int.ofNat m ≤ Int.ofNat P) = false :=zF (by show ¬ (m:Int) ≤ (P:Int);omega)
         repeat ((first
          |refine qaz c2 ?_
          |refine qa0 c2 ?_
          |refine qac (qar c2) ?_
          |refine qad c2 ?_
          |refine zd hS ?_);conv=>whnf)
         refine hK3 _ _ ?_
         conv=>whnf
         have hX2:X = rndM tr (gq fs i) (a0 :: A) P :=by rw [hX,show m - 1 = P by omega]
         obtain ⟨x0,X',rfl⟩ :=List.exists_cons_of_ne_nil hxn
         exact ⟨_,hX2,(by refine ⟨rfl,rfl,rfl,rfl,rfl,rfl,1,rfl,?_,?_⟩ <;> repeat' (first | exact qaj (qaw _) | exact Nat.max_le.2 ⟨Nat.le_of_ble_eq_true rfl,qaj (qaw _)⟩ | exact zZ | apply And.intro))⟩
        ·have g :=Classical.not_not.1 g
         have c2:decide (Int.ofNat m ≤ Int.ofNat P) = true :=zT (by show (m:Int) ≤ (P:Int);omega)
         repeat ((first
          |refine qam c2 ?_
          |refine qal c2 ?_
          |refine qac (qah c2) ?_
          |refine qaa c2 ?_
          |refine zd hS ?_);conv=>whnf)
         have p :=pn m (gq fs i) hm1 g hmf
         have pf :=pF (Int.ofNat m)
         have hT :=htr.tv m (gq fs i)
         refine qb2 hS (qdb hS ?_)
         refine qd1 hS (A :=Option (List (Nat × Nat))) [1,2,3,4,10,11,12,13] (fun o => [(14,xV o),(15,.bool o.isSome)]) (fun _ => []) (fun _ => []) (fun o => o = tr m (gq fs i)) (Nat.le_of_ble_eq_true rfl) (qau hE hS ?_) ?_
         ·conv=>whnf
          refine Or.elim (qtt (tr m (gq fs i))) (fun e => ?_) (fun z => Exists.elim z fun u e => ?_)
          ·rw [e] at p
           have p:Pure prog 35 [_,_] (.tup [.nils,.bool false]) :=p
           repeat ((first
            |refine qac (takP (qbw fs h)) ?_
            |refine qam (qaf hif) ?_
            |refine qal (qaf hif) ?_
            |refine qac (qah (qaf hif)) ?_
            |refine qaa (qaf hif) ?_
            |refine qab hC (pf) ?_
            |refine qab hC (p) ?_
            |refine zd hS ?_);conv=>whnf)
           exact ⟨none,e.symm,(by refine ⟨rfl,rfl,rfl,rfl,rfl,rfl,3,rfl,?_,?_⟩ <;> repeat' (first | exact qaj (qaw _) | exact Nat.max_le.2 ⟨Nat.le_of_ble_eq_true rfl,qaj (qaw _)⟩ | exact zZ | apply And.intro))⟩
          ·rw [e] at p
           have hu :=hT u hm1 g hmf e
           have p:Pure prog 35 [_,_] (.tup [trA u,.bool true]) :=p
           rw [qg8 (fun z => by rw [z] at hu;exact absurd hu.1 (by decide))] at p
           have lu :=qag (zp u)
           repeat ((first
            |refine qac (takP (qbw fs h)) ?_
            |refine qam (qaf hif) ?_
            |refine qal (qaf hif) ?_
            |refine qac (qah (qaf hif)) ?_
            |refine qaa (qaf hif) ?_
            |refine qab hC (pf) ?_
            |refine qab hC (p) ?_
            |refine zd hS ?_);conv=>whnf)
           exact ⟨some u,e.symm,(by refine ⟨rfl,rfl,rfl,rfl,rfl,rfl,3,rfl,?_,?_⟩ <;> repeat' (first | exact qaj (qaw _) | exact Nat.max_le.2 ⟨Nat.le_of_ble_eq_true rfl,qaj (qaw _)⟩ | exact zZ | apply And.intro))⟩
         ·rintro o ho M rfl
          have hst :=qie (tr :=tr) (f :=gq fs i) (A :=(a0 :: A)) hm1
          rw [← hX,← ho] at hst
          rcases o with _ | u
          ·refine qau hE hS ?_
           conv=>whnf
           refine qae hE hS ?_
           conv=>whnf
           have cz:decide ((0:Int) < ((a0 :: A).length:Int)) = true :=zT (by rw [List.length_cons];omega)
           repeat ((first
            |refine qam cz ?_
            |refine qal cz ?_
            |refine qac (qah cz) ?_
            |refine qaa cz ?_
            |refine zd hS ?_);conv=>whnf)
           have hX3:X = rndM tr (gq fs i) (a0 :: A) (m + 1 - 1) :=by rw [Nat.add_sub_cancel,hst];exact (List.append_nil X).symm
           refine qau hE hS ?_
           conv=>whnf
           refine hK3 _ _ ?_
           conv=>whnf
           exact ⟨(m + 1,X,_,[.chain jx 1 22,.chain X.length 1 68]),[1,2],⟨⟨by omega,by omega⟩,hX3,.inr ⟨hxn,rfl,_,rfl⟩⟩,by show P + 1 - (m + 1) < P + 1 - m;omega,(by refine ⟨rfl,rfl,rfl,rfl,rfl,rfl,by decide,?_,?_,?_,by kernel_rfl,?_,?_⟩ <;> repeat' (first | exact ⟨_,rfl,rnC (j :=1) (by decide) rfl rfl (qaw _)⟩ | exact qaj (qaw _) | exact Nat.max_le.2 ⟨Nat.le_of_ble_eq_true rfl,qaj (qaw _)⟩ | exact ⟨_,rfl,RnV.wk (WkV.refl _) (bz (pv_no _))⟩ | exact ⟨_,rfl,RnV.wk (WkV.refl _) (bz (qb0 (a0 :: A)))⟩ | exact ⟨_,rfl,RnV.wk (WkV.int (qa2 (m :=m + 1) (by omega))) (Nat.zero_le _)⟩ | exact ⟨_,rfl,RnV.wk (WkV.refl _) (Nat.max_le.2 ⟨Nat.le_of_ble_eq_true rfl,qaj (qaw _)⟩)⟩ | exact zZ | apply And.intro))⟩
          ·have lu :=qag (zp u)
           have hXl:X.length ≤ 81 :=by rw [hX];exact Nat.le_trans (qht _) (Nat.le_trans (Nat.mul_le_mul (show m - 1 ≤ 3 by omega) h27) (by decide))
           refine qau hE hS ?_
           conv=>whnf
           refine qbe hE hS (A :=Nat × List Ts) [1,2,3,4,10,11,13,14,15] (fun (k,Y) => [(12,.lst (shl Y) Y.length (.ch 2)),(16,nv k)]) (fun (_,Y) => [(2,.chain Y.length 1 68)]) (fun _ => []) (fun (k,Y) => k ≤ (a0 :: A).length ∧ Y = X ++ ((a0 :: A).take k).map (· ++ [u])) (fun (k,_) => (a0 :: A).length - k) (0,X) (Nat.le_of_ble_eq_true rfl) rfl (by refine ⟨rfl,rfl,rfl,rfl,rfl,rfl,3,rfl,?_,?_⟩ <;> repeat' (first | exact qaj (qaw _) | exact Nat.max_le.2 ⟨Nat.le_of_ble_eq_true rfl,qaj (qaw _)⟩ | exact bz (qb0 (a0 :: A)) | exact bz (pv_no _) | exact zZ | apply And.intro)) ⟨Nat.zero_le _,(List.append_nil X).symm⟩ ?_
           rintro ⟨k,Y⟩ ⟨hk,hY⟩ M hM
           obtain rfl:M = 3 :=hM
           have hYl:Y.length ≤ 108 :=by rw [hY,List.length_append,List.length_map,List.length_take];omega
           have hk1:IntKind.i64.wrap (Int.ofNat k + 1) = Int.ofNat (k + 1) :=qa2 (m :=k + 1) (by omega)
           conv=>whnf
           refine Or.elim (Classical.em (¬ k < (a0 :: A).length)) (fun hkl => ?_) (fun hkl => ?_)
           ·have hX3:Y = rndM tr (gq fs i) (a0 :: A) (m + 1 - 1) :=by rw [Nat.add_sub_cancel,hst,hY,List.take_of_length_le (by omega)]
            have hyn:Y ≠ [] :=by rw [hY];exact fun z => hxn (List.append_eq_nil_iff.1 z).1
            have c3:decide (Int.ofNat k < ((a0 :: A).length:Int)) = false :=zF (by show ¬ (k:Int) < _;omega)
            repeat ((first
             |refine qaz c3 ?_
             |refine qa0 c3 ?_
             |refine qac (qar c3) ?_
             |refine qad c3 ?_
             |refine zd hS ?_);conv=>whnf)
            refine .inl ?_
            conv=>whnf
            refine qau hE hS ?_
            conv=>whnf
            refine hK3 _ _ ?_
            conv=>whnf
            exact ⟨(m + 1,Y,_,[.chain jx 1 22,.chain Y.length 1 68]),[1,2],⟨⟨by omega,by omega⟩,hX3,.inr ⟨hyn,rfl,_,rfl⟩⟩,by show P + 1 - (m + 1) < P + 1 - m;omega,(by refine ⟨rfl,rfl,rfl,rfl,rfl,rfl,by decide,?_,?_,?_,by kernel_rfl,?_,?_⟩ <;> repeat' (first | exact ⟨_,rfl,rnC (j :=1) (by decide) rfl rfl (qaw _)⟩ | exact qaj (qaw _) | exact Nat.max_le.2 ⟨Nat.le_of_ble_eq_true rfl,qaj (qaw _)⟩ | exact ⟨_,rfl,RnV.wk (WkV.refl _) (bz (pv_no _))⟩ | exact ⟨_,rfl,RnV.wk (WkV.refl _) (bz (qb0 (a0 :: A)))⟩ | exact ⟨_,rfl,RnV.wk (WkV.int (qa2 (m :=m + 1) (by omega))) (Nat.zero_le _)⟩ | exact ⟨_,rfl,RnV.wk (WkV.refl _) (Nat.max_le.2 ⟨Nat.le_of_ble_eq_true rfl,qaj (qaw _)⟩)⟩ | exact zZ | apply And.intro))⟩
           ·have hkl :=Classical.not_not.1 hkl
            have c3:decide (Int.ofNat k < ((a0 :: A).length:Int)) = true :=zT (by show (k:Int) < _;omega)
            have hga :=hAl _ (qm0 _ hkl)
            refine Or.elim (qt5 (gA (a0 :: A) k)) (fun ea => ?_) (fun z => Exists.elim z fun w0 z => Exists.elim z fun w ea => ?_)
            ·have n1:nth (shl (a0 :: A)) (k * 1) = some .nils :=by rw [Nat.mul_one,qer _ _ hkl,ea];rfl
             repeat ((first
              |refine qac (nthP n1) ?_
              |refine qam c3 ?_
              |refine qal c3 ?_
              |refine qac (qah c3) ?_
              |refine qaa c3 ?_
              |refine qam (qaf hkl) ?_
              |refine qal (qaf hkl) ?_
              |refine qac (qah (qaf hkl)) ?_
              |refine qaa (qaf hkl) ?_
              |refine zd hS ?_);conv=>whnf)
             have hel:WkV (.lst [pv (zp u)] (0 + 1) (.ch 3)) (saA (gA (a0 :: A) k ++ [u])) :=by rw [ea];exact WkV.own _ _ _
             refine qaa (zT (show (Y.length + (0 + 1)) * 24 ≤ 140737488355328 by omega)) ?_
             conv=>whnf
             refine qaa (zT (show Y.length + (0 + 1) ≤ 9223372036854775807 by omega)) ?_
             conv=>whnf
             refine qaa (qgg Y) ?_
             conv=>whnf
             refine qaa (zT rfl) ?_
             conv=>whnf
             exact ⟨(k + 1,Y ++ [gA (a0 :: A) k ++ [u]]),⟨hkl,by rw [qgs _ hkl,List.map_append,← List.append_assoc,← hY];rfl⟩,by show (a0 :: A).length - (k + 1) < (a0 :: A).length - k;omega,Nat.le_refl _,(by refine ⟨rfl,rfl,rfl,rfl,rfl,rfl,3,rfl,?_,?_⟩ <;> repeat' (first | exact qaj (qaw _) | exact Nat.max_le.2 ⟨Nat.le_of_ble_eq_true rfl,qaj (qaw _)⟩ | exact bz (qb0 (a0 :: A)) | exact bz (pv_no _) | exact ⟨_,rfl,qqv _ _ hel _⟩ | exact qqw _ _ | exact zZ | apply And.intro))⟩
            ·have n1:nth (shl (a0 :: A)) (k * 1) = some (tlV (w0 :: w)) :=by rw [Nat.mul_one,qer _ _ hkl,ea];rfl
             have lw :=qba (w0 :: w)
             have hw3:w.length + 1 ≤ 3 :=by rw [ea] at hga;have :=hga.1;rw [List.length_cons] at this;omega
             repeat ((first
              |refine qac (nthP n1) ?_
              |refine qam c3 ?_
              |refine qal c3 ?_
              |refine qac (qah c3) ?_
              |refine qaa c3 ?_
              |refine qam (qaf hkl) ?_
              |refine qal (qaf hkl) ?_
              |refine qac (qah (qaf hkl)) ?_
              |refine qaa (qaf hkl) ?_
              |refine zd hS ?_);conv=>whnf)
             refine qac (qky (e :=22) (ys :=tls (w0 :: w)) (m :=(w0 :: w).length) (own :=.no) (l :=tls (w0 :: w)) (by kernel_rfl) rfl (qh8 _)) ?_
             conv=>whnf
             refine qaa (qd8 (w0 :: w)) ?_
             conv=>whnf
             refine qaa (zT (show (w.length + 1) * 24 ≤ 140737488355328 by omega)) ?_
             conv=>whnf
             refine qaa (zT (show w.length + 1 ≤ 9223372036854775807 by omega)) ?_
             conv=>whnf
             refine qaa (zT (show (w.length + 1 + (0 + 1)) * 24 ≤ 140737488355328 by omega)) ?_
             conv=>whnf
             refine qaa (zT (show w.length + 1 + (0 + 1) ≤ 9223372036854775807 by omega)) ?_
             conv=>whnf
             refine qaa (qgf (w0 :: w)) ?_
             conv=>whnf
             refine qaa (zT rfl) ?_
             conv=>whnf
             have hel:WkV (.lst (tls (w0 :: w) ++ [pv (zp u)]) (w.length + 1 + (0 + 1)) (.ch 3)) (saA (gA (a0 :: A) k ++ [u])) :=by
              rw [ea]
              show WkV _ (.lst (tls ((w0 :: w) ++ [u])) ((w0 :: w) ++ [u]).length .no)
              rw [qh6,List.length_append]
              exact WkV.own _ _ _
             refine qaa (zT (show (Y.length + (0 + 1)) * 24 ≤ 140737488355328 by omega)) ?_
             conv=>whnf
             refine qaa (zT (show Y.length + (0 + 1) ≤ 9223372036854775807 by omega)) ?_
             conv=>whnf
             refine qaa (qgg Y) ?_
             conv=>whnf
             refine qaa (zT rfl) ?_
             conv=>whnf
             exact ⟨(k + 1,Y ++ [gA (a0 :: A) k ++ [u]]),⟨hkl,by rw [qgs _ hkl,List.map_append,← List.append_assoc,← hY];rfl⟩,by show (a0 :: A).length - (k + 1) < (a0 :: A).length - k;omega,Nat.le_refl _,(by refine ⟨rfl,rfl,rfl,rfl,rfl,rfl,3,rfl,?_,?_⟩ <;> repeat' (first | exact qaj (qaw _) | exact Nat.max_le.2 ⟨Nat.le_of_ble_eq_true rfl,qaj (qaw _)⟩ | exact bz (qb0 (a0 :: A)) | exact bz (pv_no _) | exact ⟨_,rfl,qqv _ _ hel _⟩ | exact qqw _ _ | exact zZ | apply And.intro))⟩
      ·rintro X hX M rfl
       cases X
       all_goals
        refine qau hE hS ?_
        conv=>whnf
        exact ⟨_,hX,(by refine ⟨rfl,rfl,rfl,rfl,rfl,rfl,1,rfl,?_,?_⟩ <;> repeat' (first | exact qaj (qaw _) | exact zZ | apply And.intro))⟩
     ·rintro X hX M rfl
      have hXl :=qht (tr :=tr) (f :=gq fs i) (A :=(a0 :: A)) P
      rw [← hX] at he hXl
      have h3i:X.length ≤ 3 ^ (i + 1) :=by rw [Nat.pow_succ,Nat.mul_comm];exact Nat.le_trans hXl (Nat.mul_le_mul (by omega) hA)
      have hXm:∀ x,x ∈ X → x.length ≤ i + 1 ∧ ∀ u,u ∈ x → gT u :=fun x hx => by
       rw [hX] at hx
       obtain ⟨n,u,y,k1,k2,k3,rfl⟩ :=qf6.1 hx
       have hy :=hAl y k3
       refine ⟨by rw [List.length_append];show _ + 1 ≤ _;omega,fun w hw => ?_⟩
       rcases List.mem_append.1 hw with z | z
       ·exact hy.2 w z
       ·rw [List.mem_singleton.1 z];exact htr.tv n _ u k1.1 k1.2 hmf k2
      clear hX
      cases X
      all_goals
       refine qau hE hS ?_
       conv=>whnf
       refine hK1 _ _ ?_
       conv=>whnf
       exact ⟨(i + 1,_),[],⟨h,he,h3i,hXm⟩,by show fs.length - (i + 1) < fs.length - i;omega,(by refine ⟨rfl,rfl,rfl,rfl,rfl,rfl,by decide,?_,?_,?_,by kernel_rfl,?_,?_⟩ <;> repeat' (first | exact qaj (qaw _) | exact ⟨_,rfl,RnV.wk (WkV.refl _) (bz (pv_no _))⟩ | exact ⟨_,rfl,RnV.wk (WkV.refl _) (bz (qb0 (a0 :: A)))⟩ | exact ⟨_,rfl,RnV.wk (WkV.refl _) (bz (qb0 _))⟩ | exact ⟨_,rfl,RnV.wk (WkV.int (hi1 h)) (Nat.zero_le _)⟩ | exact zZ | apply And.intro))⟩
   ·rintro A ⟨hA,h27⟩ M rfl
    have hAok:∀ x,x ∈ A → x.length = fs.length ∧ ∀ u,u ∈ x → gT u :=fun x hx => by
     rw [hA] at hx
     obtain ⟨y,w,k1,k2,k3⟩ :=(ql0 _ _).1 hx
     rw [List.mem_singleton.1 k1] at k3
     rw [k3]
     exact qn4 htr fs w (fun f hf => hf) k2
    rw [← hA] at lR ⊢
    clear hA
    rcases A with _ | ⟨a0,A⟩
    ·refine qb2 hS (qau hE hS ?_)
     conv=>whnf
     refine qb2 hS (qau hE hS ?_)
     conv=>whnf
     refine qae hE hS ?_
     conv=>whnf
     refine qau hE hS ?_
     conv=>whnf
     refine qa7 hq true rfl ?_
     conv=>whnf
     exact ⟨_,rfl,Wk.refl _⟩
    ·refine qb2 hS (qau hE hS ?_)
     conv=>whnf
     refine qb2 hS (qau hE hS ?_)
     conv=>whnf
     refine qbh hE hS (A :=Nat × Option Ts) [1,2,3,10] (fun (k,o) => [(17,ovA o),(18,nv k)]) (fun _ => []) (fun (k,o) => k ≤ (a0 :: A).length ∧ fldD Q t fs o ((a0 :: A).drop k) = fldD Q t fs none (a0 :: A) ∧ ∀ b,o = some b → b.length = fs.length ∧ ∀ u,u ∈ b → gT u) (fun (k,_) => (a0 :: A).length - k) (0,none) rfl rfl (by refine ⟨rfl,rfl,rfl,rfl,?_,?_⟩ <;> repeat' (first | exact qaj (qaw _) | exact zZ | apply And.intro)) ⟨Nat.zero_le _,rfl,fun _ h => nomatch h⟩ ?_
     rintro ⟨k,o⟩ ⟨hk,he,ho⟩
     have hk1:k < (a0 :: A).length → IntKind.i64.wrap (Int.ofNat k + 1) = Int.ofNat (k + 1) :=fun h => qa2 (m :=k + 1) (by omega)
     rcases o with _ | d
     ·conv=>whnf
      refine Or.elim (Classical.em (¬ k < (a0 :: A).length)) (fun h => ?_) (fun h => ?_)
      ·have c1:decide (Int.ofNat k < ((a0 :: A).length:Int)) = false :=zF (by show ¬ (k:Int) < _;omega)
       repeat ((first
        |refine qaz c1 ?_
        |refine qa0 c1 ?_
        |refine qac (qar c1) ?_
        |refine qad c1 ?_
        |refine zd hS ?_);conv=>whnf)
       rw [List.drop_eq_nil_of_le (by omega),fldD] at he
       rw [← he]
       refine qau hE hS ?_
       conv=>whnf
       refine qa7 hq true rfl ?_
       conv=>whnf
       exact ⟨_,rfl,Wk.refl _⟩
      ·have h :=Classical.not_not.1 h
       have c1:decide (Int.ofNat k < ((a0 :: A).length:Int)) = true :=zT (by show (k:Int) < _;omega)
       have hx :=hAok _ (qm0 _ h)
       have n1:nth (shl (a0 :: A)) (k * 1) = some (tlV (gA (a0 :: A) k)) :=by rw [Nat.mul_one,qer _ _ h,qxz fun e => by rw [e] at hx;have:0 = fs.length :=hx.1;omega]
       have pP :=qen (gA (a0 :: A) k) (by omega) fun u hu => (hx.2 u hu).2.1
       have lg :=qba (gA (a0 :: A) k)
       rw [qu7 _ h] at he
       have he:fldD Q t fs (if smA 0 (gA (a0 :: A) k) ≤ Q then some (gA (a0 :: A) k) else none) ((a0 :: A).drop (k + 1)) = _ :=he
       by_cases hc:smA 0 (gA (a0 :: A) k) ≤ Q
       ·have c2:decide (Int.ofNat (smA 0 (gA (a0 :: A) k)) ≤ Int.ofNat Q) = true :=zT (by show ((smA 0 _:Nat):Int) ≤ (Q:Int);omega)
        rw [if_pos hc] at he
        repeat ((first
         |refine qac (nthP n1) ?_
         |refine qam c1 ?_
         |refine qal c1 ?_
         |refine qac (qah c1) ?_
         |refine qaa c1 ?_
         |refine qam c2 ?_
         |refine qal c2 ?_
         |refine qac (qah c2) ?_
         |refine qaa c2 ?_
         |refine qam (qaf h) ?_
         |refine qal (qaf h) ?_
         |refine qac (qah (qaf h)) ?_
         |refine qaa (qaf h) ?_
         |refine qab hC (pP) ?_
         |refine zd hS ?_);conv=>whnf)
        refine qa7 hq true rfl ?_
        conv=>whnf
        repeat ((first
         |refine qac (nthP n1) ?_
         |refine qam c1 ?_
         |refine qal c1 ?_
         |refine qac (qah c1) ?_
         |refine qaa c1 ?_
         |refine qam c2 ?_
         |refine qal c2 ?_
         |refine qac (qah c2) ?_
         |refine qaa c2 ?_
         |refine qam (qaf h) ?_
         |refine qal (qaf h) ?_
         |refine qac (qah (qaf h)) ?_
         |refine qaa (qaf h) ?_
         |refine qab hC (pP) ?_
         |refine zd hS ?_);conv=>whnf)
        exact ⟨(k + 1,some (gA (a0 :: A) k)),⟨h,he,fun b hb => by cases hb;exact hx⟩,by show (a0 :: A).length - (k + 1) < (a0 :: A).length - k;omega,(by refine ⟨rfl,rfl,rfl,rfl,?_,?_⟩ <;> repeat' (first | exact congrArg (fun z => some (AV.int .i64 z)) (hk1 h) | exact qaj (qaw _) | exact qaj (qba _) | exact zZ | apply And.intro))⟩
       ·have c2:decide (Int.ofNat (smA 0 (gA (a0 :: A) k)) ≤ Int.ofNat Q) = false :=zF (by show ¬ ((smA 0 _:Nat):Int) ≤ (Q:Int);omega)
        rw [if_neg hc] at he
        repeat ((first
         |refine qac (nthP n1) ?_
         |refine qam c1 ?_
         |refine qal c1 ?_
         |refine qac (qah c1) ?_
         |refine qaa c1 ?_
         |refine qaz c2 ?_
         |refine qa0 c2 ?_
         |refine qac (qar c2) ?_
         |refine qad c2 ?_
         |refine qam (qaf h) ?_
         |refine qal (qaf h) ?_
         |refine qac (qah (qaf h)) ?_
         |refine qaa (qaf h) ?_
         |refine qab hC (pP) ?_
         |refine zd hS ?_);conv=>whnf)
        exact ⟨(k + 1,none),⟨h,he,fun _ h => nomatch h⟩,by show (a0 :: A).length - (k + 1) < (a0 :: A).length - k;omega,(by refine ⟨rfl,rfl,rfl,rfl,?_,?_⟩ <;> repeat' (first | exact congrArg (fun z => some (AV.int .i64 z)) (hk1 h) | exact qaj (qaw _) | exact qaj (qba _) | exact zZ | apply And.intro))⟩
     ·have hd :=ho d rfl
      have ld :=qba d
      conv=>whnf
      refine Or.elim (Classical.em (¬ k < (a0 :: A).length)) (fun h => ?_) (fun h => ?_)
      ·have c1:decide (Int.ofNat k < ((a0 :: A).length:Int)) = false :=zF (by show ¬ (k:Int) < _;omega)
       repeat ((first
        |refine qaz c1 ?_
        |refine qa0 c1 ?_
        |refine qac (qar c1) ?_
        |refine qad c1 ?_
        |refine zd hS ?_);conv=>whnf)
       rw [List.drop_eq_nil_of_le (by omega),fldD] at he
       rw [← he]
       refine qau hE hS ?_
       conv=>whnf
       refine qa7 hq false rfl ?_
       conv=>whnf
       exact ⟨_,rfl,Wk.refl _⟩
      ·have h :=Classical.not_not.1 h
       have c1:decide (Int.ofNat k < ((a0 :: A).length:Int)) = true :=zT (by show (k:Int) < _;omega)
       have hx :=hAok _ (qm0 _ h)
       have n1:nth (shl (a0 :: A)) (k * 1) = some (tlV (gA (a0 :: A) k)) :=by rw [Nat.mul_one,qer _ _ h,qxz fun e => by rw [e] at hx;have:0 = fs.length :=hx.1;omega]
       have pP :=qen (gA (a0 :: A) k) (by omega) fun u hu => (hx.2 u hu).2.1
       have lg :=qba (gA (a0 :: A) k)
       rw [qu7 _ h] at he
       have he:fldD Q t fs (if smA 0 (gA (a0 :: A) k) ≤ Q ∧ prfB t fs (gA (a0 :: A) k) d = true then some (gA (a0 :: A) k) else some d) ((a0 :: A).drop (k + 1)) = _ :=he
       have pp :=qif (gA (a0 :: A) k) d fs t hx.1 hd.1 hf.2 hx.2 hd.2 hfb ht
       by_cases hc:smA 0 (gA (a0 :: A) k) ≤ Q
       ·have c2:decide (Int.ofNat (smA 0 (gA (a0 :: A) k)) ≤ Int.ofNat Q) = true :=zT (by show ((smA 0 _:Nat):Int) ≤ (Q:Int);omega)
        repeat ((first
         |refine qac (nthP n1) ?_
         |refine qam c1 ?_
         |refine qal c1 ?_
         |refine qac (qah c1) ?_
         |refine qaa c1 ?_
         |refine qam c2 ?_
         |refine qal c2 ?_
         |refine qac (qah c2) ?_
         |refine qaa c2 ?_
         |refine qam (qaf h) ?_
         |refine qal (qaf h) ?_
         |refine qac (qah (qaf h)) ?_
         |refine qaa (qaf h) ?_
         |refine qab hC (pP) ?_
         |refine zd hS ?_);conv=>whnf)
        refine qa7 hq false rfl ?_
        conv=>whnf
        by_cases hp:prfB t fs (gA (a0 :: A) k) d = true
        ·rw [if_pos ⟨hc,hp⟩] at he
         rw [hp] at pp
         repeat ((first
          |refine qac (nthP n1) ?_
          |refine qam c1 ?_
          |refine qal c1 ?_
          |refine qac (qah c1) ?_
          |refine qaa c1 ?_
          |refine qam c2 ?_
          |refine qal c2 ?_
          |refine qac (qah c2) ?_
          |refine qaa c2 ?_
          |refine qam (qaf h) ?_
          |refine qal (qaf h) ?_
          |refine qac (qah (qaf h)) ?_
          |refine qaa (qaf h) ?_
          |refine qab hC (pP) ?_
          |refine qab hC (pp) ?_
          |refine zd hS ?_);conv=>whnf)
         exact ⟨(k + 1,some (gA (a0 :: A) k)),⟨h,he,fun b hb => by cases hb;exact hx⟩,by show (a0 :: A).length - (k + 1) < (a0 :: A).length - k;omega,(by refine ⟨rfl,rfl,rfl,rfl,?_,?_⟩ <;> repeat' (first | exact congrArg (fun z => some (AV.int .i64 z)) (hk1 h) | exact qaj (qaw _) | exact qaj (qba _) | exact zZ | apply And.intro))⟩
        ·rw [if_neg fun z => hp z.2] at he
         rw [Bool.eq_false_iff.2 hp] at pp
         repeat ((first
          |refine qac (nthP n1) ?_
          |refine qam c1 ?_
          |refine qal c1 ?_
          |refine qac (qah c1) ?_
          |refine qaa c1 ?_
          |refine qam c2 ?_
          |refine qal c2 ?_
          |refine qac (qah c2) ?_
          |refine qaa c2 ?_
          |refine qam (qaf h) ?_
          |refine qal (qaf h) ?_
          |refine qac (qah (qaf h)) ?_
          |refine qaa (qaf h) ?_
          |refine qab hC (pP) ?_
          |refine qab hC (pp) ?_
          |refine zd hS ?_);conv=>whnf)
         exact ⟨(k + 1,some d),⟨h,he,fun b hb => by cases hb;exact hd⟩,by show (a0 :: A).length - (k + 1) < (a0 :: A).length - k;omega,(by refine ⟨rfl,rfl,rfl,rfl,?_,?_⟩ <;> repeat' (first | exact congrArg (fun z => some (AV.int .i64 z)) (hk1 h) | exact qaj (qaw _) | exact qaj (qba _) | exact zZ | apply And.intro))⟩
       ·have c2:decide (Int.ofNat (smA 0 (gA (a0 :: A) k)) ≤ Int.ofNat Q) = false :=zF (by show ¬ ((smA 0 _:Nat):Int) ≤ (Q:Int);omega)
        rw [if_neg fun z => hc z.1] at he
        repeat ((first
         |refine qac (nthP n1) ?_
         |refine qam c1 ?_
         |refine qal c1 ?_
         |refine qac (qah c1) ?_
         |refine qaa c1 ?_
         |refine qaz c2 ?_
         |refine qa0 c2 ?_
         |refine qac (qar c2) ?_
         |refine qad c2 ?_
         |refine qam (qaf h) ?_
         |refine qal (qaf h) ?_
         |refine qac (qah (qaf h)) ?_
         |refine qaa (qaf h) ?_
         |refine qab hC (pP) ?_
         |refine zd hS ?_);conv=>whnf)
        exact ⟨(k + 1,some d),⟨h,he,fun b hb => by cases hb;exact hd⟩,by show (a0 :: A).length - (k + 1) < (a0 :: A).length - k;omega,(by refine ⟨rfl,rfl,rfl,rfl,?_,?_⟩ <;> repeat' (first | exact congrArg (fun z => some (AV.int .i64 z)) (hk1 h) | exact qaj (qaw _) | exact qaj (qba _) | exact zZ | apply And.intro))⟩
 exact key N hN.cs rfl
end
end Go.Abs.Seat
