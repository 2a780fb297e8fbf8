/-
  When jobs are done: what each worker has to do.
-/
import Derived.Test.YtlmadgdonalncaaGreatDoorU11
import Derived.Test.YtlmadgdonalncaaGreatDoorB8
import Derived.Test.YtlmadgdonalncaaGreatDoorU5
import Derived.Test.YtlmadgdonalncaaGreatDoorB54
namespace Go.Abs.Seat
noncomputable section
open Go Go.Abs Go.Proofs.Tryz
set_option maxRecDepth 100000
set_option maxHeartbeats 4000000
abbrev Row :=Int × Int × List AV × Nat
def addR (x:Int) (i:Nat):List Row → List Row
 | [] => [(x,Int.ofNat i,[nv i],1)]
 |r :: L => if r.1 = x then (r.1,r.2.1,r.2.2.1 ++ [nv i],r.2.2.2 + 1) :: L else r :: addR x i L
def qei (P:List Int):Nat → List Row
 | 0 => []
 |i + 1 => addR (gi P i) i (qei P i)
def ownN (P:List Int) (k:Int) (i:Nat):List Nat :=(List.range i).filter fun j => gi P j == k
theorem qfx (P:List Int) (k:Int) (i:Nat):ownN P k (i + 1) = if gi P i = k then ownN P k i ++ [i] else ownN P k i :=by
 unfold ownN
 rw [List.range_succ,List.filter_append]
 by_cases e:gi P i = k
 ·rw [if_pos e,List.filter_cons_of_pos (p :=fun j => gi P j == k) (a :=i) (l :=[]) (beq_iff_eq.2 e)];rfl
 ·rw [if_neg e,List.filter_cons_of_neg (p :=fun j => gi P j == k) (a :=i) (l :=[]) (fun z => e (beq_iff_eq.1 z)),List.filter_nil,List.append_nil]
theorem qcp {P:List Int} {k:Int} {i j:Nat}:j ∈ ownN P k i ↔ j < i ∧ gi P j = k :=by
 unfold ownN
 rw [List.mem_filter,List.mem_range,beq_iff_eq]
theorem qr6 (P:List Int) (k:Int) (i:Nat):(ownN P k i).length ≤ i :=by
 have :=List.length_filter_le (fun j => gi P j == k) (List.range i)
 rw [List.length_range] at this
 exact this
theorem qj8 (P:List Int) (k:Int) (i:Nat):(ownN P k i).Pairwise (· < ·) :=List.Pairwise.filter _ List.pairwise_lt_range
def nvs (l:List Nat):List AV :=l.map fun j => nv j
theorem qv4:∀ l,Lives noL (nvs l)
 | [] => trivial
 | _ :: r => ⟨trivial,qv4 r⟩
theorem qv5 (l:List Nat) (n:Nat):bdl (nvs l) ≤ n :=Nat.le_trans (Nat.le_of_eq (qc6 l)) (Nat.zero_le _)
 where qc6:∀ l,bdl (nvs l) = 0
  | [] => rfl
  | _ :: r => by show Nat.max 0 (bdl (nvs r)) = 0;rw [qc6 r];rfl
structure RowOk (P:List Int) (i:Nat) (r:Row):Prop where
 xs:r.2.2.1 = nvs (ownN P r.1 i)
 cn:r.2.2.2 = (ownN P r.1 i).length
 ex:∃ j,j < i ∧ gi P j = r.1
 fs:∃ j,j < i ∧ r.2.1 = Int.ofNat j
theorem RowOk.pos {P:List Int} {i:Nat} {r:Row} (h:RowOk P i r):1 ≤ r.2.2.2 ∧ r.2.2.2 ≤ i :=by
 obtain ⟨j,h1,h2⟩ :=h.ex
 rw [h.cn]
 refine ⟨?_,qr6 _ _ _⟩
 exact List.length_pos_of_mem (qcp.2 ⟨h1,h2⟩)
structure RowsOk (P:List Int) (i:Nat) (L:List Row):Prop where
 ok:∀ r,r ∈ L → RowOk P i r
 nd:(L.map fun r => r.1).Nodup
 al:∀ j,j < i → ∃ r,r ∈ L ∧ r.1 = gi P j
theorem qt1 {P:List Int} {i:Nat}:∀ {L:List Row},(∀ r,r ∈ L → RowOk P i r) → (L.map fun r => r.1).Nodup → (∀ r,r ∈ addR (gi P i) i L → RowOk P (i + 1) r ∨ (∀ q,q ∈ L → q.1 ≠ gi P i) ∧ r = (gi P i,Int.ofNat i,[nv i],1)) ∧ ((addR (gi P i) i L).map fun r => r.1) = if gi P i ∈ L.map (fun r => r.1) then L.map (fun r => r.1) else L.map (fun r => r.1) ++ [gi P i]
 | [],_,_ => ⟨fun r hr => .inr ⟨fun _ h => (by cases h),by simpa [addR] using hr⟩,rfl⟩
 |r :: L,h,nd => by
  have hold:∀ q:Row,RowOk P i q → q.1 ≠ gi P i → RowOk P (i + 1) q :=fun q hq hn => by
   obtain ⟨j,k1,k2⟩ :=hq.ex
   obtain ⟨j2,k3,k4⟩ :=hq.fs
   have e:ownN P q.1 (i + 1) = ownN P q.1 i :=by rw [qfx,if_neg (Ne.symm hn)]
   exact ⟨by rw [e];exact hq.xs,by rw [e];exact hq.cn,⟨j,by omega,k2⟩,⟨j2,by omega,k4⟩⟩
  have nd' :=List.nodup_cons.1 nd
  by_cases e:r.1 = gi P i
  ·have e1:addR (gi P i) i (r :: L) = (r.1,r.2.1,r.2.2.1 ++ [nv i],r.2.2.2 + 1) :: L :=by rw [addR,if_pos e]
   rw [e1]
   refine ⟨fun q hq => .inl ?_,?_⟩
   ·rcases List.mem_cons.1 hq with rfl | hq
    ·have hr :=h r (List.mem_cons_self ..)
     have e2:ownN P r.1 (i + 1) = ownN P r.1 i ++ [i] :=by rw [qfx,if_pos e.symm]
     obtain ⟨j2,k3,k4⟩ :=hr.fs
     refine ⟨?_,?_,⟨i,Nat.lt_succ_self i,e.symm⟩,⟨j2,by omega,k4⟩⟩
     ·show r.2.2.1 ++ [nv i] = nvs (ownN P r.1 (i + 1))
      rw [e2,hr.xs];simp [nvs]
     ·show r.2.2.2 + 1 = (ownN P r.1 (i + 1)).length
      rw [e2,hr.cn];simp
    ·refine hold q (h q (List.mem_cons_of_mem _ hq)) fun z => nd'.1 ?_
     have z2:r.1 = q.1 :=e.trans z.symm
     exact List.mem_map.2 ⟨q,hq,z2.symm⟩
   ·rw [if_pos (by simp [e])];rfl
  ·have e1:addR (gi P i) i (r :: L) = r :: addR (gi P i) i L :=by rw [addR,if_neg e]
   obtain ⟨k1,k2⟩ :=qt1 (L :=L) (fun q hq => h q (List.mem_cons_of_mem _ hq)) nd'.2
   rw [e1]
   refine ⟨fun q hq => ?_,?_⟩
   ·rcases List.mem_cons.1 hq with rfl | hq
    ·exact .inl (hold q (h q (List.mem_cons_self ..)) e)
    ·rcases k1 q hq with k | ⟨k,k'⟩
     ·exact .inl k
     ·refine .inr ⟨fun z hz => ?_,k'⟩
      rcases List.mem_cons.1 hz with rfl | hz
      ·exact e
      ·exact k z hz
   ·rw [List.map_cons,k2]
    by_cases m:gi P i ∈ L.map fun r => r.1
    ·rw [if_pos m,if_pos (by rw [List.map_cons];exact List.mem_cons_of_mem _ m)];rfl
    ·rw [if_neg m,if_neg (by rw [List.map_cons];exact fun z => (List.mem_cons.1 z).elim (fun z => e z.symm) m)];rfl
theorem qjr (P:List Int):∀ i,RowsOk P i (qei P i)
 | 0 => ⟨fun _ h => (by cases h),List.nodup_nil,fun _ h => absurd h (Nat.not_lt_zero _)⟩
 |i + 1 => by
  have ih :=qjr P i
  obtain ⟨k1,k2⟩ :=qt1 ih.ok ih.nd
  refine ⟨fun r hr => ?_,?_,fun j hj => ?_⟩
  ·rcases k1 r hr with k | ⟨k,k'⟩
   ·exact k
   ·subst k'
    have e:ownN P (gi P i) i = [] :=List.eq_nil_iff_forall_not_mem.2 fun j hj => by
     obtain ⟨h1,h2⟩ :=qcp.1 hj
     obtain ⟨q,q1,q2⟩ :=ih.al j h1
     exact k q q1 (q2.trans h2)
    have e2:ownN P (gi P i) (i + 1) = [i] :=by rw [qfx,if_pos rfl,e];rfl
    exact ⟨by show _ = nvs (ownN P (gi P i) (i + 1));rw [e2];rfl,by show _ = (ownN P (gi P i) (i + 1)).length;rw [e2];rfl,⟨i,Nat.lt_succ_self i,rfl⟩,⟨i,Nat.lt_succ_self i,rfl⟩⟩
  ·show ((addR (gi P i) i (qei P i)).map fun r => r.1).Nodup
   rw [k2]
   split
   ·exact ih.nd
   ·rename_i hm
    rw [List.nodup_append]
    exact ⟨ih.nd,by simp,fun a ha b hb => by rw [List.mem_singleton.1 hb];exact fun z => hm (z ▸ ha)⟩
  ·have hm:gi P j ∈ (qei P (i + 1)).map fun r => r.1 :=by
    show gi P j ∈ (addR (gi P i) i (qei P i)).map fun r => r.1
    rw [k2]
    by_cases e:j = i
    ·subst e
     split
     ·assumption
     ·exact List.mem_append_right _ (List.mem_singleton.2 rfl)
    ·obtain ⟨q,q1,q2⟩ :=ih.al j (by omega)
     have:gi P j ∈ (qei P i).map fun r => r.1 :=q2 ▸ List.mem_map_of_mem (f :=fun r:Row => r.1) q1
     split
     ·exact this
     ·exact List.mem_append_left _ this
   obtain ⟨r,r1,r2⟩ :=List.mem_map.1 hm
   exact ⟨r,r1,r2⟩
theorem qmi {P:List Int} {i:Nat} {L:List Row} (h:RowsOk P i L) (hb:∀ j,j < i → 0 ≤ gi P j ∧ gi P j ≤ 2):L.length ≤ 3 :=by
 have key:∀ r,r ∈ L → 0 ≤ r.1 ∧ r.1 ≤ 2 :=fun r hr => by
  obtain ⟨j,h1,h2⟩ :=(h.ok r hr).ex
  rw [← h2];exact hb j h1
 match L,h.nd,key with
 | [],_,_ => exact Nat.zero_le _
 | [_],_,_ => exact kle rfl
 | [_,_],_,_ => exact kle rfl
 | [_,_,_],_,_ => exact Nat.le_refl _
 |a :: b :: c :: d :: r,nd,key =>
  have ha :=key a (by simp)
  have hb :=key b (by simp)
  have hc :=key c (by simp)
  have hd :=key d (by simp)
  simp only [List.map_cons,List.nodup_cons,List.mem_cons,not_or] at nd
  omega
def dueL (J:List LkI) (a b:Nat):Prop :=(gL J a).2.2 < (gL J b).2.2
instance (J:List LkI) (a b:Nat):Decidable (dueL J a b) :=inferInstanceAs (Decidable (_ < _))
def swp (l:List Nat) (j:Nat):List Nat :=(l.set (j + 1) (l.getD j 0)).set j (l.getD (j + 1) 0)
def bub (J:List LkI):List Nat → Nat → List Nat
 |l,0 => l
 |l,j + 1 => if dueL J (l.getD (j + 1) 0) (l.getD j 0) then bub J (swp l j) j else l
def insN (J:List LkI) (l:List Nat):Nat → List Nat
 | 0 => l
 |i + 1 => bub J (insN J l i) (i + 1)
def srtJ (J:List LkI) (l:List Nat):List Nat :=insN J l (l.length - 1)
theorem qgg (l:List Nat) (j:Nat):(swp l j).length = l.length :=by unfold swp;rw [List.length_set,List.length_set]
theorem qca {l:List Nat} {i:Nat} (h:i < l.length):l.getD i 0 = l[i] :=by simp [List.getD,h]
theorem qgf {l:List Nat} {j x:Nat} (hj:j + 1 < l.length) (h:x ∈ swp l j):x ∈ l :=by
 unfold swp at h
 rcases List.mem_or_eq_of_mem_set h with h | h
 ·rcases List.mem_or_eq_of_mem_set h with h | h
  ·exact h
  ·rw [h,qca (by omega)];exact List.getElem_mem _
 ·rw [h,qca hj];exact List.getElem_mem _
theorem qxa (A:List Nat) (y x:Nat) (R:List Nat):swp (A ++ y :: x :: R) A.length = A ++ x :: y :: R :=by
 unfold swp
 have e1:(A ++ y :: x :: R).getD A.length 0 = y :=by simp
 have e2:(A ++ y :: x :: R).getD (A.length + 1) 0 = x :=by simp
 rw [e1,e2]
 simp
def ltD (J:List LkI) (a b:Nat):Prop :=(gL J a).2.2 < (gL J b).2.2 ∨ (gL J a).2.2 = (gL J b).2.2 ∧ a < b
theorem qyq (J:List LkI) (x:Nat):∀ (n:Nat) (A R:List Nat),A.length = n → A.Pairwise (ltD J) → (∀ a,a ∈ A → a < x) → ∃ B,bub J (A ++ x :: R) A.length = B ++ R ∧ B.Perm (A ++ [x]) ∧ B.Pairwise (ltD J) :=by
 intro n
 induction n with
 |zero =>
  intro A R hA hp hx
  obtain rfl :=List.length_eq_zero_iff.1 hA
  exact ⟨[x],rfl,.refl _,List.pairwise_singleton _ _⟩
 |succ n ih =>
  intro A R hA hp hx
  obtain ⟨A',y,rfl⟩ : ∃ A' y,A = A' ++ [y] :=by
   have hne:A ≠ [] :=fun z => by rw [z] at hA;exact absurd hA (by simp)
   exact ⟨A.dropLast,A.getLast hne,(List.dropLast_concat_getLast hne).symm⟩
  have hl:(A' ++ [y]).length = A'.length + 1 :=by simp
  have e1:(A' ++ [y] ++ x :: R).getD (A'.length + 1) 0 = x :=by simp
  have e2:(A' ++ [y] ++ x :: R).getD A'.length 0 = y :=by simp
  have hp' :=List.pairwise_append.1 hp
  rw [hl,bub,e1,e2]
  by_cases c:dueL J x y
  ·rw [if_pos c]
   have e3:swp (A' ++ [y] ++ x :: R) A'.length = A' ++ x :: (y :: R) :=by
    rw [List.append_assoc];exact qxa A' y x R
   rw [e3]
   obtain ⟨B,b1,b2,b3⟩ :=ih A' (y :: R) (by rw [hl] at hA;omega) hp'.1 fun a ha => hx a (List.mem_append_left _ ha)
   refine ⟨B ++ [y],by rw [b1];simp,?_,?_⟩
   ·refine (b2.append_right [y]).trans ?_
    rw [List.append_assoc,List.append_assoc]
    exact List.Perm.append_left A' (List.Perm.swap y x [])
   ·rw [List.pairwise_append]
    refine ⟨b3,List.pairwise_singleton _ _,fun a ha b hb => ?_⟩
    rw [List.mem_singleton.1 hb]
    rcases List.mem_append.1 (b2.mem_iff.1 ha) with h | h
    ·exact hp'.2.2 a h y (List.mem_singleton.2 rfl)
    ·rw [List.mem_singleton.1 h];exact .inl c
  ·rw [if_neg c]
   refine ⟨A' ++ [y] ++ [x],by simp,.refl _,?_⟩
   rw [List.pairwise_append]
   refine ⟨hp,List.pairwise_singleton _ _,fun a ha b hb => ?_⟩
   rw [List.mem_singleton.1 hb]
   have hax :=hx a ha
   have hc:(gL J y).2.2 ≤ (gL J x).2.2 :=Int.not_lt.1 c
   rcases List.mem_append.1 ha with h | h
   ·have :=hp'.2.2 a h y (List.mem_singleton.2 rfl)
    unfold ltD at this ⊢
    omega
   ·rw [List.mem_singleton.1 h] at hax ⊢
    unfold ltD
    omega
theorem qo5 (J:List LkI) (l:List Nat) (hl:l.Pairwise (· < ·)):∀ i,i < l.length → ∃ B,insN J l i = B ++ l.drop (i + 1) ∧ B.Perm (l.take (i + 1)) ∧ B.Pairwise (ltD J)
 | 0,h => by
  refine ⟨l.take 1,by rw [insN];exact (List.take_append_drop 1 l).symm,.refl _,?_⟩
  obtain ⟨a,r,rfl⟩ : ∃ a r,l = a :: r :=by
   cases l with
   |nil => exact absurd h (Nat.not_lt_zero _)
   |cons a r => exact ⟨a,r,rfl⟩
  exact List.pairwise_singleton _ a
 |i + 1,h => by
  obtain ⟨B,b1,b2,b3⟩ :=qo5 J l hl i (by omega)
  have hBl:B.length = i + 1 :=by rw [b2.length_eq,List.length_take];omega
  have hd:l.drop (i + 1) = l[i + 1] :: l.drop (i + 2) :=List.drop_eq_getElem_cons h
  have e0:insN J l (i + 1) = bub J (B ++ l[i + 1] :: l.drop (i + 2)) B.length :=by rw [insN,b1,hd,hBl]
  rw [e0]
  obtain ⟨C,c1,c2,c3⟩ :=qyq J l[i + 1] B.length B (l.drop (i + 2)) rfl b3 fun a ha => by
   have ha :=b2.mem_iff.1 ha
   obtain ⟨u,hu,e⟩ :=List.mem_iff_getElem.1 ha
   rw [List.length_take] at hu
   rw [List.getElem_take] at e
   rw [← e]
   exact List.pairwise_iff_getElem.1 hl u (i + 1) (by omega) h (by omega)
  refine ⟨C,c1,?_,c3⟩
  refine c2.trans ?_
  rw [List.take_succ_eq_append_getElem h]
  exact b2.append_right _
theorem qjl (J:List LkI) {l:List Nat} (hl:l.Pairwise (· < ·)):(srtJ J l).Perm l ∧ (srtJ J l).Pairwise (ltD J) :=by
 unfold srtJ
 match l,hl with
 | [],_ => exact ⟨.refl _,List.Pairwise.nil⟩
 |a :: r,hl =>
  obtain ⟨B,b1,b2,b3⟩ :=qo5 J (a :: r) hl ((a :: r).length - 1) (by simp)
  have e:(a :: r).length - 1 + 1 = (a :: r).length :=by simp
  rw [e,List.drop_length,List.append_nil] at b1
  rw [e,List.take_length] at b2
  rw [b1]
  exact ⟨b2,b3⟩
def hrs (J:List LkI) (l:List Nat):List Nat :=l.map fun j => (gL J j).1.toNat
theorem qs2 (J:List LkI) (P:List Int) (i:Nat):∀ m,hrN J P i m = (hrs J ((ownN P (gi P i) m).filter fun k => decide (bfrJ J i k))).sum
 | 0 => rfl
 |m + 1 => by
  rw [hrN,qs2 J P i m,qfx]
  by_cases e:gi P m = gi P i
  ·rw [if_pos e,List.filter_append]
   by_cases c:bfrJ J i m
   ·rw [if_pos ⟨e,c⟩,List.filter_cons_of_pos (p :=fun k => decide (bfrJ J i k)) (a :=m) (l :=[]) (decide_eq_true c)]
    simp [hrs]
   ·rw [if_neg fun z => c z.2,List.filter_cons_of_neg (p :=fun k => decide (bfrJ J i k)) (a :=m) (l :=[]) (fun z => c (of_decide_eq_true z))]
    simp
  ·rw [if_neg e,if_neg fun z => e z.1];rfl
theorem qu8 (J:List LkI) {a b:List Nat} (h:a.Perm b):(hrs J a).sum = (hrs J b).sum :=(h.map _).sum_nat
theorem qh8 {J:List LkI}:∀ {S:List Nat},S.Pairwise (ltD J) → ∀ t (ht:t < S.length),(S.filter fun k => decide (bfrJ J S[t] k)) = S.take (t + 1)
 | [],_,t,ht => absurd ht (Nat.not_lt_zero _)
 |a :: S,hp,0,_ => by
  have h1:bfrJ J a a :=.inr ⟨rfl,Nat.le_refl _⟩
  have h2:∀ b,b ∈ S → ¬ bfrJ J a b :=fun b hb z => by
   have :=List.rel_of_pairwise_cons hp hb
   unfold ltD at this
   unfold bfrJ at z
   omega
  show (a :: S).filter (fun k => decide (bfrJ J a k)) = _
  rw [List.filter_cons_of_pos (p :=fun k => decide (bfrJ J a k)) (decide_eq_true h1)]
  have:S.filter (fun k => decide (bfrJ J a k)) = [] :=List.filter_eq_nil_iff.2 fun b hb => by simp [h2 b hb]
  rw [this];rfl
 |a :: S,hp,t + 1,ht => by
  have ht':t < S.length :=by simpa using ht
  have h1:bfrJ J S[t] a :=by
   have :=List.rel_of_pairwise_cons hp (List.getElem_mem ht')
   unfold ltD at this
   unfold bfrJ
   omega
  show (a :: S).filter (fun k => decide (bfrJ J S[t] k)) = _
  rw [List.filter_cons_of_pos (p :=fun k => decide (bfrJ J S[t] k)) (decide_eq_true h1),qh8 (List.Pairwise.of_cons hp) t ht']
  rfl
theorem qu7 (J:List LkI) {P:List Int} {m t:Nat} {k:Int} (ht:t < (srtJ J (ownN P k m)).length):gi P ((srtJ J (ownN P k m))[t]) = k ∧ (hrs J ((srtJ J (ownN P k m)).take (t + 1))).sum = hrN J P ((srtJ J (ownN P k m))[t]) m :=by
 obtain ⟨h1,h2⟩ :=qjl J (qj8 P k m)
 have hm :=qcp.1 (h1.mem_iff.1 (List.getElem_mem ht))
 refine ⟨hm.2,?_⟩
 rw [qs2,hm.2,← qh8 h2 t ht]
 exact qu8 J (h1.filter _)
end
end Go.Abs.Seat
namespace Go.Abs.Seat
noncomputable section
open Go Go.Abs Go.Proofs.Tryz
set_option maxRecDepth 100000
set_option maxHeartbeats 40000000
attribute [local irreducible] IntKind.wrap pEq
def inTm (W J:List LkI) (P:List Int):Prop :=∀ i,i < J.length → ((dyN W J P i:Nat):Int) ≤ (gL J i).2.2
instance (W J:List LkI) (P:List Int):Decidable (inTm W J P) :=Classical.propDecidable _
theorem qkv (W J:List LkI) (P:List Int) {n i:Nat} (h:i < n):gi (dnT W J P n) i = Int.ofNat (dyN W J P i) :=by
 simp [gi,dnT,List.getD,h]
def evL:List AV → List AV
 | [] => []
 | [x] => [x]
 |x :: _ :: r => x :: evL r
def odL:List AV → List AV
 | [] => []
 | [_] => []
 | _ :: y :: r => y :: odL r
theorem qtn:∀ (l:List AV) (i:Nat),(evL l)[i]? = l[2 * i]?
 | [],i => by simp [evL]
 | [x],0 => rfl
 | [x],i + 1 => by simp [evL]
 |x :: y :: r,0 => rfl
 |x :: y :: r,i + 1 => by
  have :=qtn r i
  rw [show 2 * (i + 1) = 2 * i + 2 by omega]
  simpa [evL] using this
theorem qr8:∀ (l:List AV) (i:Nat),(odL l)[i]? = l[2 * i + 1]?
 | [],i => by simp [odL]
 | [x],i => by simp [odL]
 |x :: y :: r,0 => rfl
 |x :: y :: r,i + 1 => by
  have :=qr8 r i
  rw [show 2 * (i + 1) + 1 = 2 * i + 1 + 2 by omega]
  simpa [odL] using this
theorem qwn:∀ l:List AV,(evL l).length ≤ l.length
 | [] => Nat.le_refl _
 | [_] => Nat.le_refl _
 | _ :: _ :: r => by have :=qwn r;simp only [evL,List.length_cons];omega
theorem qv3:∀ l:List AV,(odL l).length ≤ l.length
 | [] => Nat.le_refl _
 | [_] => Nat.zero_le _
 | _ :: _ :: r => by have :=qv3 r;simp only [odL,List.length_cons];omega
theorem qjb:∀ (n:Nat) (xs:List AV),xs.length ≤ n → ∃ t:Tr AV,TOf xs t
 | _,[],_ => ⟨.nil,fun j => by rw [Tr.get_nil];simp⟩
 |n + 1,x :: xs,h => by
  rw [List.length_cons] at h
  obtain ⟨a,ha⟩ :=qjb n (evL xs) (Nat.le_trans (qwn xs) (by omega))
  obtain ⟨b,hb⟩ :=qjb n (odL xs) (Nat.le_trans (qv3 xs) (by omega))
  refine ⟨.node x a b,fun j => ?_⟩
  cases j with
  |zero => rfl
  |succ j =>
   rw [List.getElem?_cons_succ]
   by_cases e:j % 2 = 0
   ·rw [Tr.get_node_even _ _ _ e,ha,qtn,show 2 * (j / 2) = j by omega]
   ·rw [Tr.get_node_odd _ _ _ e,hb,qr8,show 2 * (j / 2) + 1 = j by omega]
def tlA (xs:List AV):Tr AV :=Classical.choose (qjb xs.length xs (Nat.le_refl _))
theorem qdz (xs:List AV):TOf xs (tlA xs) :=Classical.choose_spec (qjb xs.length xs (Nat.le_refl _))
theorem qk4 {xs:List AV} {t:Tr AV} (h:TOf xs t):t = tlA xs :=qw6 fun i => by rw [h,qdz]
theorem qwz {xs:List AV} (h:Lives noL xs) (n:Nat):BdT n (tlA xs) :=qys fun j a e => by
 rw [qdz] at e
 rw [qvr a (Lives.mem _ a h (List.mem_of_getElem? e))];exact Nat.zero_le _
theorem qnm (n:Nat) (l:List Nat):BdT n (tlA (nvs l)) :=qwz (qv4 l) n
theorem qr9 (l:List Nat) (j:Nat):(nvs l)[j]? = (l[j]?).map fun j => nv j :=by unfold nvs;rw [List.getElem?_map]
theorem qbi {l:List Nat} {i i':Nat} (h:i < l.length) (e:i' = i):(tlA (nvs l)).get i' = some (nv (l.getD i 0)) :=by
 subst e
 rw [qdz,qr9,List.getElem?_eq_getElem h]
 simp [List.getD,h]
theorem qeg {l:List Nat} {i i' x:Nat} (h:i < l.length) (e:i' = i):tset (pathOf i') (tlA (nvs l)) (nv x) = tlA (nvs (l.set i x)) :=by
 subst e
 refine qk4 fun j => ?_
 rw [qbq (qbi h rfl),qdz,qr9,qr9,List.getElem?_set]
 by_cases c:j = i'
 ·subst c;rw [if_pos rfl,if_pos rfl,if_pos h];rfl
 ·rw [if_neg c,if_neg (Ne.symm c)]
theorem qbc {t t':Tr AV} {x y:AV} {i:Nat} {K:Tr AV → Prop} (hi:t.get i = some y) (e:tset (pathOf i) t x = t') (h:K t'):Tr.setP (pathOf i) t x K :=qdg hi (by rw [e];exact h)
abbrev hpD (J:List LkI):Tr AObj :=.node (.cells (.node (lkA J) .nil .nil) 1 41) .nil .nil
theorem qx9 (J:List LkI):HEnd (hpD J) 1 :=fun i hi => by
 cases i with
 |zero => omega
 |succ i => exact Tr.get_single _ _
theorem qgp {J:List LkI} {a b:Nat} (ha:a < J.length) (hb:b < J.length):HFun prog 133 [nv a,nv b,.ptr 0 0] (hv (hpD J)) 1 (iv (ordI (gL J a).2.2 (gL J b).2.2)) (hv (hpD J)) :=by
 have lJ :=qau J
 have hBd:ObBd 1 (hpD J) 1 :=by
  repeat' (first|exact trivial|exact qae lJ|exact Nat.zero_le _|apply And.intro)
 refine qdb hE rfl (qx9 J) (kle rfl) (Nat.zero_le _) hBd hBd fun S q pc hS hq hC hE => ?_
 conv => whnf
 try have z60:=qav ha
 try have z61:=qav hb
 repeat ((first|refine qaf (nthP (qck J a ha)) ?_|refine qaf (nthP (qck J b hb)) ?_|refine qai ‹_› ?_|refine qah ‹_› ?_|refine pkT ‹_› ?_|refine qaa ‹_› ?_|refine qab hC (qbm (gL J a).2.2 (gL J b).2.2) ?_|refine qad hS (by kernel_rfl) ?_);conv => whnf)
 exact ⟨_,rfl,WkV.refl _,rfl,trivial⟩
theorem ob1 {h h':Tr AObj} (e0:hv h 0 = hv h' 0):∀ i,i < 1 → hv h i = hv h' i
 | 0,_ => e0
theorem qcj (a b:Int):decide (ordI a b < 0) = decide (a < b) :=by
 by_cases h:a < b
 ·rw [decide_eq_true h,decide_eq_true (qr7.2 h)]
 ·rw [decide_eq_false h,decide_eq_false fun z => h (qr7.1 z)]
def dyl (m:Nat) (f:Nat → Int):List AV :=(List.range m).map fun j => iv (f j)
def dyV (W J:List LkI) (P ks:List Int) (a:List Nat) (j:Nat):Int :=@ite _ (∃ e,e ∈ a ∧ ks.getD e (-1) = gi P j) (Classical.propDecidable _) (Int.ofNat (dyN W J P j)) 0
def soV (J:List LkI) (a:List Nat) (e:Nat) (o:List Nat):List Nat :=if e ∈ a then srtJ J o else o
theorem qnf (W J:List LkI) (P ks:List Int) (j:Nat):dyV W J P ks [] j = 0 :=by
 unfold dyV
 rw [if_neg (fun z => by obtain ⟨_,h,_⟩ :=z;cases h)]
theorem qvl (W J:List LkI) (P ks:List Int) (e:Nat) (a:List Nat) (j:Nat):dyV W J P ks (e :: a) j = if ks.getD e (-1) = gi P j then Int.ofNat (dyN W J P j) else dyV W J P ks a j :=by
 unfold dyV
 by_cases c:ks.getD e (-1) = gi P j
 ·rw [if_pos c,if_pos ⟨e,List.mem_cons_self ..,c⟩]
 ·rw [if_neg c]
  by_cases d:∃ e,e ∈ a ∧ ks.getD e (-1) = gi P j
  ·rw [if_pos d,if_pos (by obtain ⟨u,h1,h2⟩ :=d;exact ⟨u,List.mem_cons_of_mem _ h1,h2⟩)]
  ·rw [if_neg d,if_neg (fun z => by
    obtain ⟨u,h1,h2⟩ :=z
    rcases List.mem_cons.1 h1 with rfl | h1
    ·exact c h2
    ·exact d ⟨u,h1,h2⟩)]
theorem qz2 (m:Nat) (f:Nat → Int):Lives noL (dyl m f) :=by
 unfold dyl
 generalize List.range m = l
 induction l with
 |nil => trivial
 |cons x r ih => exact ⟨trivial,ih⟩
theorem qnn (n m:Nat) (f:Nat → Int):BdT n (tlA (dyl m f)) :=qwz (qz2 m f) n
theorem qt8 {x d:Nat} (hx:x < 1000000) (hd:1 ≤ d) (hd2:d < 1000000):Pure prog 115 [nv x,nv d] (nv ((x + d - 1) / d)) :=by
 have c9:(!((Int.ofNat d) == 0)) = true :=nt_f (beq_eq_false_iff_ne.2 (by show (d:Int) ≠ 0;omega))
 have hr:IntKind.i64.wrap ((IntKind.i64.wrap (IntKind.i64.wrap (Int.ofNat x + Int.ofNat d) - 1)).tdiv (Int.ofNat d)) = Int.ofNat ((x + d - 1) / d) :=by
  rw [show Int.ofNat x + Int.ofNat d = Int.ofNat (x + d) from rfl,qa7 (by omega),show Int.ofNat (x + d) - 1 = Int.ofNat (x + d - 1) by show ((x + d:Nat):Int) - 1 = ((x + d - 1:Nat):Int);omega,qa7 (by omega)]
  exact quoN (by omega)
 refine qas hE rfl (by repeat' first|exact trivial|assumption|exact qag _|exact fun _ h => nomatch h|apply And.intro) (by repeat' first|exact trivial|assumption|exact qag _|exact fun _ h => nomatch h|apply And.intro) fun S q pc hS hq hC hE => ?_
 conv => whnf
 refine qaa (c9) ?_
 conv => whnf
 exact ⟨_,rfl,wkE2 (congrArg (AV.int .i64) hr)⟩
theorem qez (m:Nat) (f:Nat → Int) (j:Nat):(dyl m f)[j]? = if j < m then some (iv (f j)) else none :=by
 unfold dyl
 rw [List.getElem?_map]
 by_cases e:j < m
 ·rw [if_pos e,List.getElem?_range e];rfl
 ·rw [if_neg e,List.getElem?_eq_none (by rw [List.length_range];omega)];rfl
theorem qd4 {m i i':Nat} (f:Nat → Int) (h:i < m) (e:i' = i):(tlA (dyl m f)).get i' = some (iv (f i)) :=by
 subst e
 rw [qdz,qez,if_pos h]
theorem qc5 {m i i':Nat} (f:Nat → Int) (x:Int) (h:i < m) (e:i' = i):tset (pathOf i') (tlA (dyl m f)) (iv x) = tlA (dyl m fun j => if j = i then x else f j) :=by
 subst e
 refine qk4 fun j => ?_
 rw [qbq (qd4 f h rfl),qdz,qez,qez]
 by_cases c:j = i'
 ·subst c;rw [if_pos rfl,if_pos h,if_pos rfl]
 ·rw [if_neg c,if_neg c]
structure DayF (W J:List LkI) (P:List Int) (k:Int) (l:List Nat) (t:Nat):Prop where
 it:l.getD t 0 < J.length
 key:gi P (l.getD t 0) = k
 kw:0 ≤ k ∧ k.toNat < W.length
 xs:ivs (zl (hrs J (l.take t))) ++ [iv (gL J (l.getD t 0)).1] = ivs (zl (hrs J (l.take (t + 1))))
 sum:∀ (n c:Nat),n = t + 1 → Pure prog 116 (wkl [.lst (ivs (zl (hrs J (l.take t))) ++ [iv (gL J (l.getD t 0)).1]) n (.ch c)]) (nv (hrs J (l.take (t + 1))).sum)
 up:Pure prog 115 [nv (hrs J (l.take (t + 1))).sum,iv (gL W k.toNat).2.1] (nv (dyN W J P (l.getD t 0)))
theorem dayF {W J:List LkI} {P:List Int} (hW:areW W) (hJ:areJ J) (h:isPl W J P) {k:Int} {l:List Nat} (hl:l = srtJ J (ownN P k P.length)) {t:Nat} (ht:t < l.length):DayF W J P k l t :=by
 subst hl
 have hg:(srtJ J (ownN P k P.length)).getD t 0 = (srtJ J (ownN P k P.length))[t] :=qca ht
 obtain ⟨h1,h2⟩ :=qu7 J ht
 have hmem :=qcp.1 ((qjl J (qj8 P k P.length)).1.mem_iff.1 (List.getElem_mem ht))
 rw [← hg] at h1 h2 hmem
 have hp :=h.2 _ hmem.1
 unfold qqg at hp
 rw [h1] at hp
 have hpw :=hp.1
 have hiJ:(srtJ J (ownN P k P.length)).getD t 0 < J.length :=by rw [← h.1];exact hmem.1
 have hjr :=hJ.2 _ hiJ
 have hkw:k.toNat < W.length :=by omega
 have hwr :=hW.2 _ hkw
 have hxs:ivs (zl (hrs J ((srtJ J (ownN P k P.length)).take t))) ++ [iv (gL J ((srtJ J (ownN P k P.length)).getD t 0)).1] = ivs (zl (hrs J ((srtJ J (ownN P k P.length)).take (t + 1)))) :=by
  have e1:hrs J ((srtJ J (ownN P k P.length)).take (t + 1)) = hrs J ((srtJ J (ownN P k P.length)).take t) ++ [(gL J ((srtJ J (ownN P k P.length)).getD t 0)).1.toNat] :=by
   rw [List.take_succ_eq_append_getElem ht,hg]
   unfold hrs
   rw [List.map_append];rfl
  have e:(gL J ((srtJ J (ownN P k P.length)).getD t 0)).1 = Int.ofNat (gL J ((srtJ J (ownN P k P.length)).getD t 0)).1.toNat :=(Int.toNat_of_nonneg (by have :=hjr.1;omega)).symm
  rw [e1,qqm]
  exact congrArg (fun z => _ ++ [iv z]) e
 have hle :=qwc hJ P ((srtJ J (ownN P k P.length)).getD t 0) P.length (by rw [h.1];exact Nat.le_refl _)
 have hm6:P.length ≤ 6 :=by rw [h.1];exact hJ.1.2
 have hlen:(hrs J ((srtJ J (ownN P k P.length)).take (t + 1))).length = t + 1 :=by
  unfold hrs;rw [List.length_map,List.length_take];omega
 refine ⟨hiJ,h1,⟨hpw.1,hkw⟩,hxs,fun n c hn => ?_,?_⟩
 ·have hp :=qe1 (hrs J ((srtJ J (ownN P k P.length)).take (t + 1))) (by rw [hlen];have :=qr6 P k P.length;have :=(qjl J (qj8 P k P.length)).1.length_eq;omega) (by rw [h2];omega)
  show Pure prog _ [.lst (wkl _) n .no] _
  rw [hxs,qhi,hn]
  have e:nl (zl (hrs J ((srtJ J (ownN P k P.length)).take (t + 1)))) = .lst (ivs (zl (hrs J ((srtJ J (ownN P k P.length)).take (t + 1))))) (t + 1) .no :=by
   show AV.lst _ (zl _).length .no = _
   rw [qct,hlen]
  rw [← e]
  exact hp
 ·have e:(gL W k.toNat).2.1 = Int.ofNat (gL W k.toNat).2.1.toNat :=(Int.toNat_of_nonneg (by have :=hwr.2.1;omega)).symm
  have hu :=qt8 (x :=(hrs J ((srtJ J (ownN P k P.length)).take (t + 1))).sum) (d :=(gL W k.toNat).2.1.toNat) (by rw [h2];omega) (by have :=hwr.2.1;omega) (by have :=hwr.2.1;omega)
  have e2:dyN W J P ((srtJ J (ownN P k P.length)).getD t 0) = ((hrs J ((srtJ J (ownN P k P.length)).take (t + 1))).sum + (gL W k.toNat).2.1.toNat - 1) / (gL W k.toNat).2.1.toNat :=by
   unfold dyN
   rw [h1,h2,h.1]
  rw [e2]
  have e3:iv (gL W k.toNat).2.1 = nv (gL W k.toNat).2.1.toNat :=congrArg iv e
  rw [e3]
  exact hu
structure DayI (W J:List LkI) (P ks:List Int) (a:List Nat) (l:List Nat) (t:Nat) (X:List AV) (f:Nat → Int):Prop where
 le:t ≤ l.length
 xs:X = ivs (zl (hrs J (l.take t)))
 fs:∀ j,f j = if j ∈ l.take t then Int.ofNat (dyN W J P j) else dyV W J P ks a j
theorem DayI.len {W J:List LkI} {P ks:List Int} {a:List Nat} {l:List Nat} {t:Nat} {X:List AV} {f:Nat → Int} (h:DayI W J P ks a l t X f):X.length = t :=by
 rw [h.xs,ivs_len,qct]
 unfold hrs
 rw [List.length_map,List.length_take]
 exact Nat.min_eq_left h.le
theorem DayI.no {W J:List LkI} {P ks:List Int} {a:List Nat} {l:List Nat} {t:Nat} {X:List AV} {f:Nat → Int} (h:DayI W J P ks a l t X f):Lives noL X :=by
 rw [h.xs];exact qal _
theorem DayI.bdc {W J:List LkI} {P ks:List Int} {a:List Nat} {l:List Nat} {t k c n:Nat} {X:List AV} {f:Nat → Int} (h:DayI W J P ks a l t X f) (hc:c + 1 ≤ n):bd (.lst X k (.ch c)) ≤ n :=Nat.max_le.2 ⟨hc,qae h.no⟩
theorem qfa {X:List AV} {n:Nat} (h:X.length = n):qcf X n = true :=by rw [← h];exact qec X
theorem qng {W J:List LkI} {P ks:List Int} {a:List Nat} {j:Nat} (h:∃ e,e ∈ a ∧ ks.getD e (-1) = gi P j):dyV W J P ks a j = Int.ofNat (dyN W J P j) :=by
 unfold dyV
 rw [if_pos h]
theorem qre:∀ a:List Nat,a ∈ [[],[0]] → ∀ e,e < 1 → e ∉ a → e :: a ∈ [[],[0]] ∧ 1 - (e :: a).length < 1 - a.length :=by decide
theorem qjp:∀ a:List Nat,a ∈ [[],[0],[1],[0,1],[1,0]] → ∀ e,e < 2 → e ∉ a → e :: a ∈ [[],[0],[1],[0,1],[1,0]] ∧ 2 - (e :: a).length < 2 - a.length :=by decide
theorem qgi:∀ a:List Nat,a ∈ [[],[0],[1],[2],[0,1],[1,0],[0,2],[2,0],[1,2],[2,1],[0,1,2],[0,2,1],[1,0,2],[1,2,0],[2,0,1],[2,1,0]] → ∀ e,e < 3 → e ∉ a → e :: a ∈ [[],[0],[1],[2],[0,1],[1,0],[0,2],[2,0],[1,2],[2,1],[0,1,2],[0,2,1],[1,0,2],[1,2,0],[2,0,1],[2,1,0]] ∧ 3 - (e :: a).length < 3 - a.length :=by decide
theorem qch (J:List LkI) (a:List Nat) (o:List Nat) {q e:Nat} (h:q ≠ e):soV J (e :: a) q o = soV J a q o :=by
 unfold soV
 by_cases c:q ∈ a
 ·rw [if_pos c,if_pos (List.mem_cons_of_mem _ c)]
 ·rw [if_neg c,if_neg fun z => (List.mem_cons.1 z).elim h c]
theorem OWk.cellsE {t t':Tr AV} {n:Nat} {ty:TypeId} (h:t = t'):OWk (.cells t n ty) (.cells t' n ty) :=h ▸ OWk.same _
theorem qyl (W J:List LkI) (P:List Int) (n:Nat):ivs (dnT W J P n) = dyl n fun j => Int.ofNat (dyN W J P j) :=by
 unfold dnT dyl
 generalize List.range n = l
 induction l with
 |nil => rfl
 |cons x r ih => exact congrArg (iv (Int.ofNat (dyN W J P x)) :: ·) ih
theorem qnh {W J:List LkI} {P:List Int} {o:Nat → AObj} {i m cap:Nat} {w:Int} (hm:J.length = m + 1) (ho:o i = .cells (tlA (dyl (m + 1) fun j => Int.ofNat (dyN W J P j))) (m + 1) 3):FzV o (.tup [.slc i 0 (J.length:Int).toNat cap,iv w]) (.tup [nl (dnL W J P),iv w]) :=by
 refine FzV.tup (xs :=[_,_]) (ys :=[_,_]) ⟨?_,.no trivial,trivial⟩
 have e:nl (dnL W J P) = .lst (ivs (dnL W J P)) (J.length:Int).toNat .no :=by
  show AV.lst _ (dnL W J P).length .no = _
  rw [qgq];rfl
 rw [e]
 refine FzV.slcN ho (by rw [ivs_len,qgq,hm]) (fun j _ => ?_) (qal _)
 rw [qdz,qyl,hm]
theorem DayI.init (W J:List LkI) (P ks:List Int) (a:List Nat) (l:List Nat):DayI W J P ks a l 0 [] (dyV W J P ks a) :=⟨Nat.zero_le _,rfl,fun j => by rw [if_neg (by simp)]⟩
theorem DayI.step {W J:List LkI} {P ks:List Int} {a:List Nat} {l:List Nat} {t:Nat} {X:List AV} {f:Nat → Int} {k:Int} (h:DayI W J P ks a l t X f) (ht:t < l.length) (hd:DayF W J P k l t) :
  DayI W J P ks a l (t + 1) (X ++ [iv (gL J (l.getD t 0)).1]) fun j => if j = l.getD t 0 then Int.ofNat (dyN W J P (l.getD t 0)) else f j :=by
 refine ⟨ht,by rw [h.xs];exact hd.xs,fun j => ?_⟩
 have e:l.take (t + 1) = l.take t ++ [l.getD t 0] :=by rw [List.take_succ_eq_append_getElem ht,qca ht]
 rw [e]
 by_cases c:j = l.getD t 0
 ·subst c
  rw [if_pos rfl,if_pos (List.mem_append_right _ (List.mem_singleton.2 rfl))]
 ·rw [if_neg c,h.fs]
  by_cases d:j ∈ l.take t
  ·rw [if_pos d,if_pos (List.mem_append_left _ d)]
  ·rw [if_neg d,if_neg fun z => (List.mem_append.1 z).elim d fun z => c (List.mem_singleton.1 z)]
theorem qf7 {m:Nat} {f g:Nat → Int} (h:∀ j,j < m → f j = g j):dyl m f = dyl m g :=by
 apply List.ext_getElem?
 intro j
 rw [qez,qez]
 by_cases e:j < m
 ·rw [if_pos e,if_pos e,h j e]
 ·rw [if_neg e,if_neg e]
theorem DayI.last {W J:List LkI} {P ks:List Int} {a:List Nat} {l:List Nat} {t e:Nat} {X:List AV} {f:Nat → Int} {k:Int} (h:DayI W J P ks a l t X f) (ht:t = l.length) (hl:l = srtJ J (ownN P k P.length)) (hk:ks.getD e (-1) = k) :
  tlA (dyl P.length f) = tlA (dyl P.length (dyV W J P ks (e :: a))) :=by
 refine congrArg tlA (qf7 fun j hj => ?_)
 have hm:j ∈ l ↔ k = gi P j :=by
  rw [hl,(qjl J (qj8 P k P.length)).1.mem_iff,qcp]
  exact ⟨fun z => z.2.symm,fun z => ⟨hj,z.symm⟩⟩
 rw [h.fs,ht,List.take_length,qvl,hk]
 by_cases c:k = gi P j
 ·rw [if_pos c,if_pos (hm.2 c)]
 ·rw [if_neg c,if_neg fun z => c (hm.1 z)]
end
end Go.Abs.Seat
