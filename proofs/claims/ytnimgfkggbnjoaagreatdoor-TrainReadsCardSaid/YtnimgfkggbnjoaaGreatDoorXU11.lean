/-
  What the program tells of a piece: trains, rates, how far off.
-/
import Derived.Test.YtnimgfkggbnjoaaGreatDoorXB16
import Derived.Test.YtnimgfkggbnjoaaGreatDoorXU7
import Derived.Test.YtnimgfkggbnjoaaGreatDoorXU10
import Derived.Test.YtnimgfkggbnjoaaGreatDoorXU5
namespace Go.Abs.Seat
noncomputable section
open Go Go.Abs Go.Proofs.Tryz
set_option maxRecDepth 100000
set_option maxHeartbeats 40000000
attribute [local irreducible] IntKind.wrap pEq




end
end Go.Abs.Seat
namespace Go.Abs.Seat
noncomputable section
open Go Go.Abs Go.Proofs.Tryz
set_option maxRecDepth 100000
set_option maxHeartbeats 40000000
attribute [local irreducible] pEq


end
end Go.Abs.Seat
/-! Books of accounts, plain: what must be paid with some entries. -/
namespace Go.Abs.Seat
noncomputable section
open Go Go.Abs Go.Proofs.Tryz
set_option maxRecDepth 100000
set_option maxHeartbeats 4000000
def fl (a:Int) (e:LkI):Int :=(if e.2.1 = a then e.2.2 else 0) - (if e.1 = a then e.2.2 else 0)
def sg:List LkI → Int → Int
 | [],_ => 0
 |e :: r,a => fl a e + sg r a
theorem qg8 (e:LkI) (r:List LkI):gL (e :: r) 0 = e :=rfl
theorem qsn (e:LkI) (r:List LkI) (i:Nat):gL (e :: r) (i + 1) = gL r i :=rfl
theorem qyr:∀ {X Y:List LkI} {a:Int},X.length = Y.length → (∀ j,j < X.length → fl a (gL X j) = fl a (gL Y j)) → sg X a = sg Y a
 | [],[],_,_,_ => rfl
 | [],_ :: _,_,h,_ => nomatch h
 | _ :: _,[],_,h,_ => nomatch h
 |x :: X,y :: Y,a,h,k => by
  have h0 :=k 0 (Nat.succ_pos _)
  rw [qg8,qg8] at h0
  have :=qyr (X :=X) (Y :=Y) (a :=a) (Nat.succ.inj h) fun j hj => k (j + 1) (Nat.succ_lt_succ hj)
  rw [sg,sg,h0,this]
theorem qqx:∀ {X Y:List LkI} {a:Int} {i:Nat},X.length = Y.length → i < X.length → (∀ j,j < X.length → j ≠ i → fl a (gL X j) = fl a (gL Y j)) → sg X a - sg Y a = fl a (gL X i) - fl a (gL Y i)
 | [],_,_,_,_,h,_ => absurd h (Nat.not_lt_zero _)
 | _ :: _,[],_,_,h,_,_ => nomatch h
 |x :: X,y :: Y,a,0,h,_,k => by
  have :=qyr (X :=X) (Y :=Y) (a :=a) (Nat.succ.inj h) fun j hj => k (j + 1) (Nat.succ_lt_succ hj) (Nat.succ_ne_zero j)
  rw [sg,sg,qg8,qg8,this];omega
 |x :: X,y :: Y,a,i + 1,h,hi,k => by
  have h0 :=k 0 (Nat.succ_pos _) (Nat.succ_ne_zero i).symm
  rw [qg8,qg8] at h0
  have :=qqx (X :=X) (Y :=Y) (a :=a) (i :=i) (Nat.succ.inj h) (Nat.lt_of_succ_lt_succ hi) fun j hj hn => k (j + 1) (Nat.succ_lt_succ hj) fun e => hn (Nat.succ.inj e)
  rw [sg,sg,qsn,qsn,h0];omega
theorem qow (X:List LkI) (y:LkI) {i:Nat} (hi:i < X.length) (j:Nat):gL (X.set i y) j = if j = i then y else gL X j :=by
 by_cases e:j = i
 ·subst e
  rw [if_pos rfl]
  simp [gL,List.getD,hi]
 ·rw [if_neg e]
  simp [gL,List.getD,Ne.symm e]
theorem qyq {X:List LkI} {y:LkI} {i:Nat} (hi:i < X.length) (a:Int):sg (X.set i y) a = sg X a - fl a (gL X i) + fl a y :=by
 have :=qqx (X :=X.set i y) (Y :=X) (a :=a) (i :=i) (List.length_set ..) (by rw [List.length_set];exact hi) fun j _ hn => by rw [qow X y hi,if_neg hn]
 rw [qow X y hi,if_pos rfl] at this
 omega
theorem qox:∀ {X Y:List LkI},X.length = Y.length → (∀ j,j < X.length → gL X j = gL Y j) → X = Y
 | [],[],_,_ => rfl
 | [],_ :: _,h,_ => nomatch h
 | _ :: _,[],h,_ => nomatch h
 |x :: X,y :: Y,h,k => by
  have h0:x = y :=k 0 (Nat.succ_pos _)
  rw [h0,qox (X :=X) (Y :=Y) (Nat.succ.inj h) fun j hj => k (j + 1) (Nat.succ_lt_succ hj)]
def tch (e:LkI) (a:Int):Prop :=e.1 = a ∨ e.2.1 = a
instance (e:LkI) (a:Int):Decidable (tch e a) :=inferInstanceAs (Decidable (_ ∨ _))
theorem qzd {e:LkI} {a:Int} (h:¬ tch e a):fl a e = 0 :=by
 unfold fl
 rw [if_neg fun z => h (.inr z),if_neg fun z => h (.inl z)];rfl
theorem fl_z {e:LkI} (a:Int) (h:e.2.2 = 0):fl a e = 0 :=by
 unfold fl
 rw [h];split <;> split <;> rfl
def Leaf (E:List LkI) (q:Nat → Prop) (a:Int) (i:Nat):Prop :=i < E.length ∧ q i ∧ tch (gL E i) a ∧ ∀ j,j < E.length → q j → tch (gL E j) a → j = i
def FR (E:List LkI):Prop :=∀ q:Nat → Prop,(∃ i,i < E.length ∧ q i) → ∃ a i,Leaf E q a i
def qwo (E X:List LkI):Prop :=X.length = E.length ∧ ∀ i,i < E.length → (gL X i).1 = (gL E i).1 ∧ (gL X i).2.1 = (gL E i).2.1
def SolL (b:List Int) (E X:List LkI):Prop :=qwo E X ∧ (∀ i,i < E.length → 0 < (gL X i).2.2) ∧ ∀ a:Nat,a < b.length → b.getD a 0 + sg X (Int.ofNat a) = 0
theorem qz5 {x y:LkI} {a:Int} (h1:x.1 = y.1) (h2:x.2.1 = y.2.1) (h3:tch y a → x.2.2 = y.2.2):fl a x = fl a y :=by
 by_cases t:tch y a
 ·unfold fl
  rw [h1,h2,h3 t]
 ·rw [qzd t,qzd fun z => t (by rcases z with z | z;exact .inl (h1 ▸ z);exact .inr (h2 ▸ z))]
theorem fl_t {e:LkI} {a:Int} (t:tch e a) (hn:e.1 ≠ e.2.1):fl a e = if e.1 = a then - e.2.2 else e.2.2 :=by
 unfold fl
 rcases t with t | t
 ·rw [if_pos t,if_pos t,if_neg fun z => hn (t.trans z.symm)];omega
 ·rw [if_pos t,if_neg fun z => hn (z.trans t.symm),if_neg fun z => hn (z.trans t.symm)];omega
theorem FR.uniq {b:List Int} {E X Y:List LkI} (hf:FR E) (hr:∀ i,i < E.length → (gL E i).1 ≠ (gL E i).2.1 ∧ ∀ a,tch (gL E i) a → 0 ≤ a ∧ a < (b.length:Int)) (hX:SolL b E X) (hY:SolL b E Y):X = Y :=by
 refine Classical.byContradiction fun hne => ?_
 have hd:∃ i,i < E.length ∧ (gL X i).2.2 ≠ (gL Y i).2.2 :=Classical.byContradiction fun hc => hne <| qox (hX.1.1.trans hY.1.1.symm) fun j hj => by
  rw [hX.1.1] at hj
  have h1 :=hX.1.2 j hj
  have h2 :=hY.1.2 j hj
  refine Prod.ext (h1.1.trans h2.1.symm) (Prod.ext (h1.2.trans h2.2.symm) ?_)
  exact Classical.byContradiction fun h => hc ⟨j,hj,h⟩
 obtain ⟨a,i,hi,hq,ht,hu⟩ :=hf _ hd
 have ha :=(hr i hi).2 a ht
 have hla:a.toNat < b.length :=by omega
 have sX :=hX.2.2 a.toNat hla
 have sY :=hY.2.2 a.toNat hla
 rw [show Int.ofNat a.toNat = a from Int.toNat_of_nonneg ha.1] at sX sY
 have h1 :=hX.1.2 i hi
 have h2 :=hY.1.2 i hi
 have hs :=qqx (X :=X) (Y :=Y) (a :=a) (i :=i) (hX.1.1.trans hY.1.1.symm) (by rw [hX.1.1];exact hi) fun j hj hn => by
  rw [hX.1.1] at hj
  have k1 :=hX.1.2 j hj
  have k2 :=hY.1.2 j hj
  refine qz5 (k1.1.trans k2.1.symm) (k1.2.trans k2.2.symm) fun t => Classical.byContradiction fun hc => hn (hu j hj hc ?_)
  unfold tch at t ⊢
  rw [k2.1,k2.2] at t
  exact t
 have tX:tch (gL X i) a :=by unfold tch at ht ⊢;rw [h1.1,h1.2];exact ht
 have tY:tch (gL Y i) a :=by unfold tch at ht ⊢;rw [h2.1,h2.2];exact ht
 have hn :=(hr i hi).1
 rw [fl_t tX (by rw [h1.1,h1.2];exact hn),fl_t tY (by rw [h2.1,h2.2];exact hn),h1.1,h2.1] at hs
 split at hs <;> omega
def opn (X:List LkI) (i:Nat):Prop :=(gL X i).2.2 = 0
variable {b:List Int} {E X:List LkI} {lf:List Int}
open Classical in
def slv (b:List Int) (E:List LkI):Option (List LkI) :=if h:FR E ∧ ∃ Y,SolL b E Y then some h.2.choose else none
theorem qt2:slv b E = none ↔ ¬ (FR E ∧ ∃ Y,SolL b E Y) :=by
 unfold slv
 split
 ·rename_i h;exact ⟨fun z => (nomatch z),fun z => absurd h z⟩
 ·rename_i h;exact ⟨fun _ => h,fun _ => rfl⟩
theorem qme {Y:List LkI} (h:slv b E = some Y):FR E ∧ SolL b E Y :=by
 unfold slv at h
 split at h
 ·rename_i k
  injection h with h
  rw [← h]
  exact ⟨k.1,k.2.choose_spec⟩
 ·cases h
theorem qt1 (hr:∀ i,i < E.length → (gL E i).1 ≠ (gL E i).2.1 ∧ ∀ a,tch (gL E i) a → 0 ≤ a ∧ a < (b.length:Int)) {Y:List LkI} (hf:FR E) (hY:SolL b E Y):slv b E = some Y :=by
 cases e:slv b E with
 |none => exact absurd ⟨hf,Y,hY⟩ (qt2.1 e)
 |some Z => rw [(qme e).1.uniq hr (qme e).2 hY]
end
end Go.Abs.Seat

/-! Books of accounts, plain: what is paid with the fewest entries is a forest; there is one. -/
namespace Go.Abs.Seat
noncomputable section
open Go Go.Abs Go.Proofs.Tryz
set_option maxRecDepth 100000
set_option maxHeartbeats 4000000
def zr (Z:List LkI):List LkI :=Z.map fun e => (e.1,e.2.1,0)
theorem qd2 (Z:List LkI):(zr Z).length = Z.length :=List.length_map _
theorem qhl (Z:List LkI) (i:Nat):gL (zr Z) i = ((gL Z i).1,(gL Z i).2.1,0) :=by
 by_cases h:i < Z.length
 ·simp [gL,zr,List.getD,h]
 ·simp [gL,zr,List.getD,h]
theorem qyj {E X:List LkI} (hz:∀ i,i < E.length → (gL E i).2.2 = 0) (h:qwo E X):zr X = E :=by
 refine qox ((qd2 X).trans h.1) fun j hj => ?_
 rw [qd2,h.1] at hj
 rw [qhl,(h.2 j hj).1,(h.2 j hj).2,← hz j hj]
theorem qd4 (l:List LkI) {i:Nat} (h:i < l.length):gL l i ∈ l :=by
 have e:gL l i = l[i] :=by simp [gL,List.getD,h]
 rw [e];exact List.getElem_mem h
theorem qkq {l:List LkI} {e:LkI} (h:e ∈ l):∃ i,i < l.length ∧ gL l i = e :=by
 obtain ⟨i,hi,rfl⟩ :=List.getElem_of_mem h
 exact ⟨i,hi,by simp [gL,List.getD,hi]⟩
def StL (b:List Int) (C Z:List LkI):Prop :=(zr Z).Sublist C ∧ (∀ e,e ∈ Z → 0 < e.2.2) ∧ ∀ a:Nat,a < b.length → b.getD a 0 + sg Z (Int.ofNat a) = 0
theorem StL.sol {b:List Int} {C Z:List LkI} (h:StL b C Z):SolL b (zr Z) Z :=by
 refine ⟨⟨(qd2 Z).symm,fun i _ => by rw [qhl];exact ⟨rfl,rfl⟩⟩,fun i hi => ?_,h.2.2⟩
 rw [qd2] at hi
 exact h.2.1 _ (qd4 Z hi)
structure CanP (b:List Int) (C:List LkI):Prop where
 n5:b.length ≤ 5
 nd:C.Nodup
 mem:∀ e,e ∈ C ↔ ∃ f t:Nat,(f < b.length ∧ 0 < b.getD f 0) ∧ (t < b.length ∧ b.getD t 0 < 0) ∧ e = (Int.ofNat f,Int.ofNat t,0)
theorem pgB:((List.range 5).all fun p => (List.range 5).all fun r => (List.range 5).all fun s => (List.range 5).all fun x => (List.range 5).all fun y => (List.range 5).all fun z => p == r || p == s || r == s || p == x || r == x || s == x || p == y || r == y || s == y || x == y || z == p || z == r || z == s || z == x || z == y) = true :=by decide +kernel
theorem pgN {p r s x y z:Nat} (hp:p < 5) (hr:r < 5) (hs:s < 5) (hx:x < 5) (hy:y < 5) (hz:z < 5) (h1:p ≠ r) (h2:p ≠ s) (h3:r ≠ s) (h4:p ≠ x) (h5:r ≠ x) (h6:s ≠ x) (h7:p ≠ y) (h8:r ≠ y) (h9:s ≠ y) (h10:x ≠ y) (h11:z ≠ p) (h12:z ≠ r) (h13:z ≠ s) (h14:z ≠ x):z = y :=by
 have :=List.all_eq_true.1 (List.all_eq_true.1 (List.all_eq_true.1 (List.all_eq_true.1 (List.all_eq_true.1 (List.all_eq_true.1 pgB p (List.mem_range.2 hp)) r (List.mem_range.2 hr)) s (List.mem_range.2 hs)) x (List.mem_range.2 hx)) y (List.mem_range.2 hy)) z (List.mem_range.2 hz)
 simp only [Bool.or_eq_true,beq_iff_eq,h1,h2,h3,h4,h5,h6,h7,h8,h9,h10,h11,h12,h13,h14,false_or] at this
 exact this
variable {b:List Int} {C Z:List LkI}
theorem StL.at (hC:CanP b C) (h:StL b C Z) {i:Nat} (hi:i < Z.length):∃ f t:Nat,(f < b.length ∧ 0 < b.getD f 0) ∧ (t < b.length ∧ b.getD t 0 < 0) ∧ (gL Z i).1 = Int.ofNat f ∧ (gL Z i).2.1 = Int.ofNat t :=by
 have hm:gL (zr Z) i ∈ C :=h.1.mem (qd4 _ (by rw [qd2];exact hi))
 obtain ⟨f,t,h1,h2,h3⟩ :=(hC.mem _).1 hm
 rw [qhl] at h3
 exact ⟨f,t,h1,h2,congrArg (·.1) h3,congrArg (·.2.1) h3⟩
theorem qun {l:List LkI} (h:l.Nodup) {i j:Nat} (hi:i < l.length) (hj:j < l.length) (e:gL l i = gL l j):i = j :=by
 have e1:gL l i = l[i] :=by simp [gL,List.getD,hi]
 have e2:gL l j = l[j] :=by simp [gL,List.getD,hj]
 exact (List.getElem_inj h).1 (e1.symm.trans (e.trans e2))
theorem StL.inj (hC:CanP b C) (h:StL b C Z) {i j:Nat} (hi:i < Z.length) (hj:j < Z.length) (h1:(gL Z i).1 = (gL Z j).1) (h2:(gL Z i).2.1 = (gL Z j).2.1):i = j :=
 qun (h.1.nodup hC.nd) (by rw [qd2];exact hi) (by rw [qd2];exact hj) (by rw [qhl,qhl,h1,h2])
theorem StL.cyc (hC:CanP b C) (h:StL b C Z) (hn:¬ FR (zr Z)):∃ i j k l,(i < Z.length ∧ j < Z.length ∧ k < Z.length ∧ l < Z.length) ∧ (gL Z i).1 = (gL Z j).1 ∧ (gL Z i).2.1 = (gL Z k).2.1 ∧ (gL Z k).1 = (gL Z l).1 ∧ (gL Z j).2.1 = (gL Z l).2.1 ∧ (gL Z i).1 ≠ (gL Z k).1 ∧ (gL Z i).2.1 ≠ (gL Z j).2.1 :=by
 refine Classical.byContradiction fun hc => hn fun q ⟨i0,hi0,q0⟩ => Classical.byContradiction fun hl => hc ?_
 rw [qd2] at hi0
 have more:∀ i,i < Z.length → q i → ∀ a,tch (gL Z i) a → ∃ j,j < Z.length ∧ q j ∧ tch (gL Z j) a ∧ j ≠ i :=fun i hi qi a ta => Classical.byContradiction fun hm => hl ⟨a,i,by rw [qd2];exact hi,qi,by rw [qhl];exact ta,fun j hj qj tj => Classical.byContradiction fun hji => hm ⟨j,by rw [qd2] at hj;exact hj,qj,by rw [qhl] at tj;exact tj,hji⟩⟩
 have mF:∀ i,i < Z.length → q i → ∃ j,j < Z.length ∧ q j ∧ (gL Z j).1 = (gL Z i).1 ∧ (gL Z j).2.1 ≠ (gL Z i).2.1 :=fun i hi qi => by
  obtain ⟨j,hj,qj,tj,hji⟩ :=more i hi qi _ (.inl rfl)
  obtain ⟨f,t,h1,h2,h3,h4⟩ :=h.at hC hi
  obtain ⟨f',t',h1',h2',h3',h4'⟩ :=h.at hC hj
  have e:(gL Z j).1 = (gL Z i).1 :=by
   rcases tj with e | e
   ·exact e
   ·rw [h3,h4'] at e
    have :=Int.ofNat.inj e
    subst this;omega
  exact ⟨j,hj,qj,e,fun e2 => hji (h.inj hC hj hi e e2)⟩
 have mT:∀ i,i < Z.length → q i → ∃ j,j < Z.length ∧ q j ∧ (gL Z j).2.1 = (gL Z i).2.1 ∧ (gL Z j).1 ≠ (gL Z i).1 :=fun i hi qi => by
  obtain ⟨j,hj,qj,tj,hji⟩ :=more i hi qi _ (.inr rfl)
  obtain ⟨f,t,h1,h2,h3,h4⟩ :=h.at hC hi
  obtain ⟨f',t',h1',h2',h3',h4'⟩ :=h.at hC hj
  have e:(gL Z j).2.1 = (gL Z i).2.1 :=by
   rcases tj with e | e
   ·rw [h4,h3'] at e
    have :=Int.ofNat.inj e
    subst this;omega
   ·exact e
  exact ⟨j,hj,qj,e,fun e2 => hji (h.inj hC hj hi e2 e)⟩
 obtain ⟨i1,hi1,q1,a1,b1⟩ :=mF i0 hi0 q0
 obtain ⟨i2,hi2,q2,a2,b2⟩ :=mT i0 hi0 q0
 obtain ⟨i3,hi3,q3,a3,b3⟩ :=mT i1 hi1 q1
 by_cases e:(gL Z i2).1 = (gL Z i3).1
 ·exact ⟨i0,i1,i2,i3,⟨hi0,hi1,hi2,hi3⟩,a1.symm,a2.symm,e,a3.symm,b2.symm,b1.symm⟩
 ·obtain ⟨i4,hi4,q4,a4,b4⟩ :=mF i2 hi2 q2
  refine ⟨i0,i1,i2,i4,⟨hi0,hi1,hi2,hi4⟩,a1.symm,a2.symm,a4.symm,?_,b2.symm,b1.symm⟩
  obtain ⟨p,x,p1,p2,p3,p4⟩ :=h.at hC hi0
  obtain ⟨_,y,_,r2,_,r4⟩ :=h.at hC hi1
  obtain ⟨r,_,s1,_,s3,_⟩ :=h.at hC hi2
  obtain ⟨s,_,t1,_,t3,_⟩ :=h.at hC hi3
  obtain ⟨_,z,_,u2,_,u4⟩ :=h.at hC hi4
  have n5 :=hC.n5
  have ne:∀ {u v:Nat},Int.ofNat u ≠ Int.ofNat v → u ≠ v :=fun h e => h (congrArg Int.ofNat e)
  rw [p3,s3] at b2
  rw [a1,p3,t3] at b3
  rw [s3,t3] at e
  rw [r4,p4] at b1
  rw [a2,u4,p4] at b4
  have pos:∀ {u v:Nat},0 < b.getD u 0 → b.getD v 0 < 0 → u ≠ v :=fun h k e => by subst e;omega
  rw [r4,u4]
  refine congrArg Int.ofNat (pgN (p :=p) (r :=r) (s :=s) (x :=x) (y :=y) (z :=z) ?_ ?_ ?_ ?_ ?_ ?_ (ne b2).symm (ne b3).symm (ne e) ?_ ?_ ?_ ?_ ?_ ?_ (ne b1).symm ?_ ?_ ?_ (ne b4)).symm
  ·omega
  ·omega
  ·omega
  ·omega
  ·omega
  ·omega
  ·exact pos p1.2 p2.2
  ·exact pos s1.2 p2.2
  ·exact pos t1.2 p2.2
  ·exact pos p1.2 r2.2
  ·exact pos s1.2 r2.2
  ·exact pos t1.2 r2.2
  ·exact (pos p1.2 u2.2).symm
  ·exact (pos s1.2 u2.2).symm
  ·exact (pos t1.2 u2.2).symm
def nz (Z:List LkI):List LkI :=Z.filter fun e => decide (e.2.2 ≠ 0)
theorem qum:∀ (Z:List LkI) (a:Int),sg (nz Z) a = sg Z a
 | [],_ => rfl
 |e :: r,a => by
  unfold nz
  rw [List.filter_cons]
  by_cases h:e.2.2 = 0
  ·rw [if_neg (by simp [h]),sg,fl_z a h]
   have :=qum r a
   unfold nz at this
   omega
  ·rw [if_pos (by simp [h]),sg,sg]
   have :=qum r a
   unfold nz at this
   omega
theorem qy1 (Z:List LkI):(zr (nz Z)).Sublist (zr Z) :=(List.filter_sublist).map _
theorem qy2 {Z:List LkI} {e:LkI} (h:e ∈ Z) (h0:e.2.2 = 0):(nz Z).length < Z.length :=by
 refine Nat.lt_of_le_of_ne (List.length_filter_le ..) fun k => ?_
 have :=(List.length_filter_eq_length_iff.1 k) e h
 rw [h0] at this
 simp at this
theorem qyi {Z:List LkI} {i:Nat} (hi:i < Z.length) {c:Int}:zr (Z.set i ((gL Z i).1,(gL Z i).2.1,c)) = zr Z :=by
 refine qox (by rw [qd2,qd2,List.length_set]) fun j _ => ?_
 rw [qhl,qhl,qow Z _ hi]
 by_cases e:j = i
 ·rw [if_pos e,e]
 ·rw [if_neg e]
def addC (Z:List LkI) (i:Nat) (c:Int):List LkI :=Z.set i ((gL Z i).1,(gL Z i).2.1,(gL Z i).2.2 + c)
theorem qgz (Z:List LkI) (i:Nat) (c:Int):(addC Z i c).length = Z.length :=List.length_set ..
theorem qhd {i:Nat} (hi:i < Z.length) (c:Int):zr (addC Z i c) = zr Z :=qyi hi
theorem qnk {i:Nat} (hi:i < Z.length) (c:Int) (j:Nat):(gL (addC Z i c) j).1 = (gL Z j).1 ∧ (gL (addC Z i c) j).2.1 = (gL Z j).2.1 :=by
 have :=qhl (addC Z i c) j
 rw [qhd hi,qhl] at this
 exact ⟨(congrArg (·.1) this).symm,(congrArg (·.2.1) this).symm⟩
theorem ql0 {i:Nat} (hi:i < Z.length) (c:Int) (j:Nat):(gL (addC Z i c) j).2.2 = (gL Z j).2.2 + if j = i then c else 0 :=by
 unfold addC
 rw [qow Z _ hi]
 by_cases e:j = i
 ·rw [if_pos e,if_pos e,e]
 ·rw [if_neg e,if_neg e];omega
theorem qze (a f t c d:Int):fl a (f,t,c + d) = fl a (f,t,c) + fl a (f,t,d) :=by
 show (if t = a then c + d else 0) - (if f = a then c + d else 0) = (if t = a then c else 0) - (if f = a then c else 0) + ((if t = a then d else 0) - (if f = a then d else 0))
 split <;> split <;> omega
theorem fl4 (a p r x y m:Int):fl a (p,x,-m) + fl a (r,y,-m) + fl a (p,y,m) + fl a (r,x,m) = 0 :=by
 show (if x = a then -m else 0) - (if p = a then -m else 0) + ((if y = a then -m else 0) - (if r = a then -m else 0)) + ((if y = a then m else 0) - (if p = a then m else 0)) + ((if x = a then m else 0) - (if r = a then m else 0)) = 0
 split <;> split <;> split <;> split <;> omega
theorem qix {i:Nat} (hi:i < Z.length) (c a:Int):sg (addC Z i c) a = sg Z a + fl a ((gL Z i).1,(gL Z i).2.1,c) :=by
 unfold addC
 rw [qyq hi,qze]
 have:fl a ((gL Z i).1,(gL Z i).2.1,(gL Z i).2.2) = fl a (gL Z i) :=rfl
 omega
theorem StL.less (hC:CanP b C) (h:StL b C Z) (hn:¬ FR (zr Z)):∃ Z',StL b C Z' ∧ Z'.length < Z.length :=by
 obtain ⟨i,j,k,l,⟨hi,hj,hk,hl⟩,e1,e2,e3,e4,n1,n2⟩ :=h.cyc hC hn
 obtain ⟨m,hm⟩ : ∃ m,m = min (gL Z i).2.2 (gL Z l).2.2 :=⟨_,rfl⟩
 have pi :=h.2.1 _ (qd4 Z hi)
 have pj :=h.2.1 _ (qd4 Z hj)
 have pk :=h.2.1 _ (qd4 Z hk)
 have pl :=h.2.1 _ (qd4 Z hl)
 have dij:i ≠ j :=fun e => n2 (by rw [e])
 have dik:i ≠ k :=fun e => n1 (by rw [e])
 have dil:i ≠ l :=fun e => n1 (by rw [e3,e])
 have djk:j ≠ k :=fun e => n1 (by rw [e1,e])
 have djl:j ≠ l :=fun e => n1 (by rw [e1,e3,e])
 have dkl:k ≠ l :=fun e => n2 (by rw [e2,e4,e])
 have l1 :=qgz Z i (-m)
 have l2 :=qgz (addC Z i (-m)) l (-m)
 have l3 :=qgz (addC (addC Z i (-m)) l (-m)) j m
 have l4 :=qgz (addC (addC (addC Z i (-m)) l (-m)) j m) k m
 have k1 :=qnk (Z :=Z) hi (-m)
 have k2 :=qnk (Z :=addC Z i (-m)) (i :=l) (by omega) (-m)
 have k3 :=qnk (Z :=addC (addC Z i (-m)) l (-m)) (i :=j) (by omega) m
 have c1 :=ql0 (Z :=Z) hi (-m)
 have c2 :=ql0 (Z :=addC Z i (-m)) (i :=l) (by omega) (-m)
 have c3 :=ql0 (Z :=addC (addC Z i (-m)) l (-m)) (i :=j) (by omega) m
 have c4 :=ql0 (Z :=addC (addC (addC Z i (-m)) l (-m)) j m) (i :=k) (by omega) m
 have z1 :=qhd (Z :=Z) hi (-m)
 have z2 :=qhd (Z :=addC Z i (-m)) (i :=l) (by omega) (-m)
 have z3 :=qhd (Z :=addC (addC Z i (-m)) l (-m)) (i :=j) (by omega) m
 have z4 :=qhd (Z :=addC (addC (addC Z i (-m)) l (-m)) j m) (i :=k) (by omega) m
 have s1 :=qix (Z :=Z) hi (-m)
 have s2 :=qix (Z :=addC Z i (-m)) (i :=l) (by omega) (-m)
 have s3 :=qix (Z :=addC (addC Z i (-m)) l (-m)) (i :=j) (by omega) m
 have s4 :=qix (Z :=addC (addC (addC Z i (-m)) l (-m)) j m) (i :=k) (by omega) m
 rw [(k1 l).1,(k1 l).2] at s2
 rw [(k2 j).1,(k2 j).2,(k1 j).1,(k1 j).2] at s3
 rw [(k3 k).1,(k3 k).2,(k2 k).1,(k2 k).2,(k1 k).1,(k1 k).2] at s4
 generalize addC (addC (addC (addC Z i (-m)) l (-m)) j m) k m = W at *
 generalize addC (addC (addC Z i (-m)) l (-m)) j m = W3 at *
 generalize addC (addC Z i (-m)) l (-m) = W2 at *
 generalize addC Z i (-m) = W1 at *
 have hW:∀ x,(gL W x).2.2 = (gL Z x).2.2 + (if x = i then -m else 0) + (if x = l then -m else 0) + (if x = j then m else 0) + (if x = k then m else 0) :=fun x => by rw [c4,c3,c2,c1]
 refine ⟨nz W,⟨?_,fun e he => ?_,fun a ha => ?_⟩,?_⟩
 ·have :=qy1 W
  rw [z4,z3,z2,z1] at this
  exact this.trans h.1
 ·obtain ⟨hw,h0⟩ :=List.mem_filter.1 he
  obtain ⟨x,hx,rfl⟩ :=qkq hw
  have h0:(gL W x).2.2 ≠ 0 :=of_decide_eq_true h0
  have px :=h.2.1 _ (qd4 Z (i :=x) (by omega))
  have :=hW x
  by_cases x1:x = i
  ·subst x1
   rw [if_pos rfl,if_neg dil,if_neg dij,if_neg dik] at this
   omega
  ·rw [if_neg x1] at this
   by_cases x2:x = l
   ·subst x2
    rw [if_pos rfl,if_neg djl.symm,if_neg dkl.symm] at this
    omega
   ·rw [if_neg x2] at this
    split at this <;> split at this <;> omega
 ·rw [qum,s4,s3,s2,s1,← e3,← e2,← e1,← e4]
  have h1 :=h.2.2 a ha
  have h2 :=fl4 (Int.ofNat a) (gL Z i).1 (gL Z k).1 (gL Z i).2.1 (gL Z j).2.1 m
  omega
 ·have hlen:W.length = Z.length :=by omega
  rw [← hlen]
  by_cases x:(gL Z i).2.2 ≤ (gL Z l).2.2
  ·refine qy2 (qd4 W (i :=i) (by omega)) ?_
   rw [hW,if_pos rfl,if_neg dil,if_neg dij,if_neg dik]
   omega
  ·refine qy2 (qd4 W (i :=l) (by omega)) ?_
   rw [hW,if_neg dil.symm,if_pos rfl,if_neg djl.symm,if_neg dkl.symm]
   omega
theorem StL.best (hC:CanP b C):∀ (n:Nat) (Z:List LkI),Z.length ≤ n → StL b C Z → ∃ X,StL b C X ∧ FR (zr X) ∧ X.length ≤ Z.length ∧ (¬ FR (zr Z) → X.length < Z.length)
 | 0,Z,hn,h => by
  refine ⟨Z,h,fun q ⟨i,hi,_⟩ => ?_,Nat.le_refl _,fun z => absurd (fun q ⟨i,hi,_⟩ => ?_) z⟩
  all_goals
   rw [qd2] at hi
   omega
 |n + 1,Z,hn,h => by
  by_cases hf:FR (zr Z)
  ·exact ⟨Z,h,hf,Nat.le_refl _,fun z => absurd hf z⟩
  ·obtain ⟨Z',h',hl⟩ :=h.less hC hf
   obtain ⟨X,x1,x2,x3,_⟩ :=StL.best hC n Z' (by omega) h'
   exact ⟨X,x1,x2,by omega,fun _ => by omega⟩
def sumN:Nat → (Nat → Int) → Int
 | 0,_ => 0
 |n + 1,f => sumN n f + f n
theorem qmb:∀ {n:Nat} {f g:Nat → Int},(∀ i,i < n → f i = g i) → sumN n f = sumN n g
 | 0,_,_,_ => rfl
 |n + 1,f,g,h => by rw [sumN,sumN,qmb fun i hi => h i (Nat.lt_succ_of_lt hi),h n (Nat.lt_succ_self n)]
theorem qhq:∀ (n:Nat) (f g:Nat → Int),sumN n (fun i => f i + g i) = sumN n f + sumN n g
 | 0,_,_ => rfl
 |n + 1,f,g => by rw [sumN,sumN,sumN,qhq n f g];omega
theorem qj2:∀ (n:Nat) (f:Nat) (c:Int),sumN n (fun i => if i = f then c else 0) = if f < n then c else 0
 | 0,_,_ => rfl
 |n + 1,f,c => by
  rw [sumN,qj2 n f c]
  by_cases h:f < n
  ·rw [if_pos h,if_neg (show ¬ n = f by omega),if_pos (show f < n + 1 by omega)];omega
  ·by_cases e:n = f
   ·rw [if_neg h,if_pos e,if_pos (show f < n + 1 by omega)];omega
   ·rw [if_neg h,if_neg e,if_neg (show ¬ f < n + 1 by omega)];rfl
theorem qj1:∀ {n:Nat} {f:Nat → Int},(∀ i,i < n → 0 ≤ f i) → 0 ≤ sumN n f ∧ (sumN n f = 0 → ∀ i,i < n → f i = 0)
 | 0,_,_ => ⟨Int.le_refl _,fun _ i hi => absurd hi (Nat.not_lt_zero i)⟩
 |n + 1,f,h => by
  have ih :=qj1 (n :=n) (f :=f) fun i hi => h i (Nat.lt_succ_of_lt hi)
  have hn :=h n (Nat.lt_succ_self n)
  rw [sumN]
  refine ⟨by omega,fun hz i hi => ?_⟩
  by_cases e:i = n
  ·subst e;omega
  ·exact ih.2 (by omega) i (by omega)
theorem qnu:∀ (n:Nat) (f:Nat → Int),sumN n (fun i => - f i) = - sumN n f
 | 0,_ => rfl
 |n + 1,f => by rw [sumN,sumN,qnu n f];omega
theorem qqt {n:Nat} {f:Nat → Int} (h:sumN n f = 0) (hn:¬ ∀ i,i < n → f i = 0):(∃ i,i < n ∧ 0 < f i) ∧ ∃ i,i < n ∧ f i < 0 :=by
 constructor
 ·refine Classical.byContradiction fun hc => hn fun i hi => ?_
  have :=(qj1 (n :=n) (f :=fun i => - f i) fun j hj => by
   have:¬ 0 < f j :=fun z => hc ⟨j,hj,z⟩
   omega).2 (by rw [qnu,h];rfl) i hi
  omega
 ·refine Classical.byContradiction fun hc => hn fun i hi => ?_
  exact (qj1 (n :=n) (f :=f) fun j hj => by
   have:¬ f j < 0 :=fun z => hc ⟨j,hj,z⟩
   omega).2 h i hi
def pos (x:Int):Int :=if 0 < x then x else 0
theorem qot (b:List Int) (x:Int) {i:Nat} (hi:i < b.length) (j:Nat):(b.set i x).getD j 0 = if j = i then x else b.getD j 0 :=by
 by_cases e:j = i
 ·subst e
  rw [if_pos rfl]
  simp [List.getD,hi]
 ·rw [if_neg e]
  simp [List.getD,Ne.symm e]
theorem exi {b0:List Int} (hC:CanP b0 C):∀ (N:Nat) (b:List Int),b.length = b0.length → sumN b.length (fun a => pos (b.getD a 0)) ≤ (N:Int) → sumN b.length (fun a => b.getD a 0) = 0 →
  (∀ a,a < b0.length → (0 < b.getD a 0 → 0 < b0.getD a 0) ∧ (b.getD a 0 < 0 → b0.getD a 0 < 0)) → ∃ Z,zr Z = C ∧ (∀ e,e ∈ Z → 0 ≤ e.2.2) ∧ ∀ a:Nat,a < b0.length → b.getD a 0 + sg Z (Int.ofNat a) = 0
 |N,b,hlen,hN,hs,hb => by
  by_cases hz:∀ i,i < b.length → b.getD i 0 = 0
  ·have cz:∀ e,e ∈ C → e.2.2 = 0 :=fun e he => by
    obtain ⟨f,t,_,_,rfl⟩ :=(hC.mem e).1 he
    rfl
   refine ⟨C,qyj (fun i hi => cz _ (qd4 C hi)) ⟨rfl,fun _ _ => ⟨rfl,rfl⟩⟩,fun e he => by rw [cz e he];exact Int.le_refl _,fun a ha => ?_⟩
   rw [hz a (by omega)]
   have:∀ L:List LkI,(∀ e,e ∈ L → e.2.2 = 0) → sg L (Int.ofNat a) = 0 :=fun L => by
    induction L with
    |nil => exact fun _ => rfl
    |cons e r ih => exact fun h => by rw [sg,fl_z _ (h e (List.mem_cons_self ..)),ih fun x hx => h x (List.mem_cons_of_mem _ hx)];rfl
   rw [this C cz];rfl
  ·obtain ⟨⟨f,hf,pf⟩,t,ht,pt⟩ :=qqt hs hz
   have hft:f ≠ t :=fun e => by subst e;omega
   have g1 :=qot b (b.getD f 0 - 1) hf
   have g2 :=qot (b.set f (b.getD f 0 - 1)) (b.getD t 0 + 1) (i :=t) (by rw [List.length_set];exact ht)
   have hl2:((b.set f (b.getD f 0 - 1)).set t (b.getD t 0 + 1)).length = b.length :=by rw [List.length_set,List.length_set]
   generalize (b.set f (b.getD f 0 - 1)).set t (b.getD t 0 + 1) = c at *
   have hc:∀ a,c.getD a 0 = b.getD a 0 + (if a = f then -1 else 0) + (if a = t then 1 else 0) :=fun a => by
    rw [g2,g1]
    by_cases e1:a = t
    ·subst e1
     rw [if_pos rfl,if_pos rfl,if_neg hft.symm];omega
    ·rw [if_neg e1,if_neg e1]
     by_cases e2:a = f
     ·subst e2
      rw [if_pos rfl,if_pos rfl];omega
     ·rw [if_neg e2,if_neg e2];omega
   have hpos:sumN c.length (fun a => pos (c.getD a 0)) = sumN b.length (fun a => pos (b.getD a 0)) - 1 :=by
    rw [hl2,qmb (g :=fun a => pos (b.getD a 0) + if a = f then -1 else 0) fun a _ => ?_,qhq,qj2,if_pos hf]
    ·omega
    ·rw [hc]
     unfold pos
     by_cases e1:a = t
     ·subst e1
      rw [if_neg hft.symm,if_pos rfl,if_neg (by omega),if_neg (by omega)];rfl
     ·by_cases e2:a = f
      ·subst e2
       rw [if_neg e1,if_pos rfl,if_pos pf]
       split <;> omega
      ·rw [if_neg e1,if_neg e2]
       have:b.getD a 0 + 0 + 0 = b.getD a 0 :=by omega
       rw [this];omega
   have hn0 :=(qj1 (n :=b.length) (f :=fun a => pos (b.getD a 0)) fun i _ => by unfold pos;split <;> omega)
   have hN0:N ≠ 0 :=fun e => by
    subst e
    have :=hn0.2 (by have :=hn0.1;omega) f hf
    have e:pos (b.getD f 0) = 0 :=this
    unfold pos at e
    rw [if_pos pf] at e
    omega
   obtain ⟨M,rfl⟩ : ∃ M,N = M + 1 :=⟨N - 1,by omega⟩
   obtain ⟨Z,hz1,hz2,hz3⟩ :=exi hC M c (hl2.trans hlen) (by omega) (by
    rw [hl2,qmb (g :=fun a => b.getD a 0 + ((if a = f then -1 else 0) + (if a = t then 1 else 0))) fun a _ => by rw [hc];omega,qhq,qhq,qj2,qj2,if_pos hf,if_pos ht,hs];rfl) fun a ha => by
    have :=hb a ha
    have hca :=hc a
    by_cases e1:a = t
    ·subst e1
     rw [if_neg hft.symm,if_pos rfl] at hca
     exact ⟨fun z => by omega,fun z => this.2 (by omega)⟩
    ·by_cases e2:a = f
     ·subst e2
      rw [if_neg e1,if_pos rfl] at hca
      exact ⟨fun z => this.1 (by omega),fun z => by omega⟩
     ·rw [if_neg e1,if_neg e2] at hca
      exact ⟨fun z => this.1 (by omega),fun z => this.2 (by omega)⟩
   have hmem:(Int.ofNat f,Int.ofNat t,0) ∈ C :=(hC.mem _).2 ⟨f,t,⟨by omega,(hb f (by omega)).1 pf⟩,⟨by omega,(hb t (by omega)).2 pt⟩,rfl⟩
   obtain ⟨i,hi,hi2⟩ :=qkq hmem
   have hiZ:i < Z.length :=by rw [← qd2,hz1];exact hi
   rw [← hz1,qhl] at hi2
   have e1:(gL Z i).1 = Int.ofNat f :=congrArg (·.1) hi2
   have e2:(gL Z i).2.1 = Int.ofNat t :=congrArg (·.2.1) hi2
   refine ⟨addC Z i 1,(qhd hiZ 1).trans hz1,fun e he => ?_,fun a ha => ?_⟩
   ·obtain ⟨x,hx,rfl⟩ :=qkq he
    rw [ql0 hiZ]
    rw [qgz] at hx
    have :=hz2 _ (qd4 Z hx)
    split <;> omega
   ·rw [qix hiZ,e1,e2]
    have h3 :=hz3 a ha
    rw [hc] at h3
    show b.getD a 0 + (sg Z (Int.ofNat a) + ((if Int.ofNat t = Int.ofNat a then 1 else 0) - (if Int.ofNat f = Int.ofNat a then 1 else 0))) = 0
    have d1:(Int.ofNat t = Int.ofNat a) = (a = t) :=propext ⟨fun z => (Int.ofNat.inj z).symm,fun z => by rw [z]⟩
    have d2:(Int.ofNat f = Int.ofNat a) = (a = f) :=propext ⟨fun z => (Int.ofNat.inj z).symm,fun z => by rw [z]⟩
    simp only [d1,d2]
    split at h3 <;> split at h3 <;> (first|omega | (split <;> first|omega | (split <;> omega)))
theorem StL.ex (hC:CanP b C) (hs:sumN b.length (fun a => b.getD a 0) = 0):∃ Z,StL b C Z :=by
 obtain ⟨N,hN⟩ : ∃ N:Nat,sumN b.length (fun a => pos (b.getD a 0)) ≤ (N:Int) :=⟨_,Int.self_le_toNat _⟩
 obtain ⟨Z,h1,h2,h3⟩ :=exi hC N b rfl hN hs fun a _ => ⟨id,id⟩
 refine ⟨nz Z,?_,fun e he => ?_,fun a ha => by rw [qum];exact h3 a ha⟩
 ·have :=qy1 Z
  rw [h1] at this
  exact this
 ·obtain ⟨hw,h0⟩ :=List.mem_filter.1 he
  have h0:e.2.2 ≠ 0 :=of_decide_eq_true h0
  have :=h2 e hw
  omega
end
end Go.Abs.Seat

namespace Go.Abs.Seat
noncomputable section
open Go Go.Abs Go.Proofs.Tryz
set_option maxRecDepth 100000
set_option maxHeartbeats 4000000
def elP (x y:LkI):Prop :=x.1 < y.1 ∨ x.1 = y.1 ∧ x.2.1 < y.2.1
instance (x y:LkI):Decidable (elP x y) :=inferInstanceAs (Decidable (_ ∨ _))
def lxP:List LkI → List LkI → Prop
 | _,[] => False
 | [],_ :: _ => True
 |x :: A,y :: B => elP x y ∨ (x.1 = y.1 ∧ x.2.1 = y.2.1) ∧ lxP A B
instance lxP.dec:∀ A B,Decidable (lxP A B)
 | [],[] => inferInstanceAs (Decidable False)
 | _ :: _,[] => inferInstanceAs (Decidable False)
 | [],_ :: _ => inferInstanceAs (Decidable True)
 |x :: A,y :: B => by
  have :=lxP.dec A B
  exact inferInstanceAs (Decidable (_ ∨ _ ∧ _))
def erP (A B:List LkI):Prop :=A.length < B.length ∨ A.length = B.length ∧ lxP A B
instance (A B:List LkI):Decidable (erP A B) :=inferInstanceAs (Decidable (_ ∨ _))
theorem elP.trans {x y z:LkI} (h:elP x y) (k:elP y z):elP x z :=by unfold elP at *;omega
theorem lxP.trans:∀ {A B D:List LkI},lxP A B → lxP B D → lxP A D
 | _,[],_,h,_ => by simp [lxP] at h
 | _,_ :: _,[],_,k => by simp [lxP] at k
 | [],_ :: _,_ :: _,_,_ => by simp [lxP]
 |x :: A,y :: B,z :: D,h,k => by
  rw [lxP] at h k ⊢
  rcases h with h | ⟨h1,h2⟩
  ·rcases k with k | ⟨k1,k2⟩
   ·exact .inl (h.trans k)
   ·exact .inl (by unfold elP at *;omega)
  ·rcases k with k | ⟨k1,k2⟩
   ·exact .inl (by unfold elP at *;omega)
   ·exact .inr ⟨by omega,lxP.trans h2 k2⟩
theorem lxP.tot:∀ {A B:List LkI},¬ lxP A B → ¬ lxP B A → zr A = zr B
 | [],[],_,_ => rfl
 | [],_ :: _,h,_ => absurd (by simp [lxP]) h
 | _ :: _,[],_,k => absurd (by simp [lxP]) k
 |x :: A,y :: B,h,k => by
  rw [lxP] at h k
  have h1:¬ elP x y :=fun z => h (.inl z)
  have k1:¬ elP y x :=fun z => k (.inl z)
  have e:x.1 = y.1 ∧ x.2.1 = y.2.1 :=by unfold elP at *;omega
  have :=lxP.tot (A :=A) (B :=B) (fun z => h (.inr ⟨e,z⟩)) fun z => k (.inr ⟨⟨e.1.symm,e.2.symm⟩,z⟩)
  unfold zr at this ⊢
  rw [List.map_cons,List.map_cons,this,e.1,e.2]
theorem qv4:∀ (A B:List LkI),lxP (zr A) (zr B) ↔ lxP A B
 | [],[] => Iff.rfl
 | [],_ :: _ => Iff.rfl
 | _ :: _,[] => Iff.rfl
 |x :: A,y :: B => by
  have :=qv4 A B
  unfold zr at this ⊢
  rw [List.map_cons,List.map_cons,lxP,lxP,this]
  exact Iff.rfl
theorem qwg (A B:List LkI):erP (zr A) (zr B) ↔ erP A B :=by
 unfold erP
 rw [qd2,qd2,qv4]
theorem erP.trans {A B D:List LkI} (h:erP A B) (k:erP B D):erP A D :=by
 rcases h with h | ⟨h1,h2⟩
 ·rcases k with k | ⟨k1,_⟩
  ·exact .inl (by omega)
  ·exact .inl (by omega)
 ·rcases k with k | ⟨k1,k2⟩
  ·exact .inl (by omega)
  ·exact .inr ⟨by omega,h2.trans k2⟩
theorem erP.tot {A B:List LkI} (h:¬ erP A B) (k:¬ erP B A):zr A = zr B :=by
 have e:A.length = B.length :=by
  have h1:¬ A.length < B.length :=fun z => h (.inl z)
  have k1:¬ B.length < A.length :=fun z => k (.inl z)
  omega
 exact lxP.tot (fun z => h (.inr ⟨e,z⟩)) fun z => k (.inr ⟨e.symm,z⟩)
def cnB (b:List Int) (f:Nat):Nat → List LkI
 | 0 => []
 |j + 1 => cnB b f j ++ if 0 < b.getD f 0 ∧ b.getD j 0 < 0 then [(Int.ofNat f,Int.ofNat j,0)] else []
def cnF (b:List Int):Nat → List LkI
 | 0 => []
 |i + 1 => cnF b i ++ cnB b i b.length
abbrev cnL (b:List Int):List LkI :=cnF b b.length
theorem qk2 (b:List Int) (f:Nat) (e:LkI):∀ j,e ∈ cnB b f j ↔ ∃ t:Nat,t < j ∧ (0 < b.getD f 0 ∧ b.getD t 0 < 0) ∧ e = (Int.ofNat f,Int.ofNat t,0)
 | 0 => ⟨fun h => (nomatch h),fun ⟨_,h,_⟩ => absurd h (Nat.not_lt_zero _)⟩
 |j + 1 => by
  rw [cnB,List.mem_append,qk2 b f e j]
  constructor
  ·rintro (⟨t,h1,h2⟩ | h)
   ·exact ⟨t,by omega,h2⟩
   ·split at h
    ·rename_i h2
     exact ⟨j,Nat.lt_succ_self j,h2,List.mem_singleton.1 h⟩
    ·cases h
  ·rintro ⟨t,h1,h2,h3⟩
   by_cases e1:t = j
   ·subst e1
    rw [if_pos h2]
    exact .inr (List.mem_singleton.2 h3)
   ·exact .inl ⟨t,by omega,h2,h3⟩
theorem qit (b:List Int) (e:LkI):∀ i,e ∈ cnF b i ↔ ∃ f t:Nat,f < i ∧ t < b.length ∧ (0 < b.getD f 0 ∧ b.getD t 0 < 0) ∧ e = (Int.ofNat f,Int.ofNat t,0)
 | 0 => ⟨fun h => (nomatch h),fun ⟨_,_,h,_⟩ => absurd h (Nat.not_lt_zero _)⟩
 |i + 1 => by
  rw [cnF,List.mem_append,qit b e i,qk2]
  constructor
  ·rintro (⟨f,t,h1,h2,h3⟩ | ⟨t,h1,h2,h3⟩)
   ·exact ⟨f,t,by omega,h2,h3⟩
   ·exact ⟨i,t,Nat.lt_succ_self i,h1,h2,h3⟩
  ·rintro ⟨f,t,h1,h2,h3,h4⟩
   by_cases e1:f = i
   ·subst e1
    exact .inr ⟨t,h2,h3,h4⟩
   ·exact .inl ⟨f,t,by omega,h2,h3,h4⟩
theorem qs6 (b:List Int) (f:Nat):∀ j,(cnB b f j).Pairwise elP
 | 0 => .nil
 |j + 1 => by
  rw [cnB]
  refine List.pairwise_append.2 ⟨qs6 b f j,?_,fun x hx y hy => ?_⟩
  ·split
   ·exact List.pairwise_singleton ..
   ·exact .nil
  ·obtain ⟨t,h1,_,rfl⟩ :=(qk2 b f x j).1 hx
   split at hy
   ·obtain rfl :=List.mem_singleton.1 hy
    exact .inr ⟨rfl,Int.ofNat_lt.2 h1⟩
   ·cases hy
theorem qs5 (b:List Int):∀ i,(cnF b i).Pairwise elP
 | 0 => .nil
 |i + 1 => by
  rw [cnF]
  refine List.pairwise_append.2 ⟨qs5 b i,qs6 b i _,fun x hx y hy => ?_⟩
  obtain ⟨f,t,h1,_,_,rfl⟩ :=(qit b x i).1 hx
  obtain ⟨t',_,_,rfl⟩ :=(qk2 b i y _).1 hy
  exact .inl (Int.ofNat_lt.2 h1)
theorem qzq {b:List Int} (hb:b.length ≤ 5):CanP b (cnL b) :=by
 refine ⟨hb,(qs5 b _).imp fun {x y} h e => by subst e;unfold elP at h;omega,fun e => (qit b e _).trans ?_⟩
 constructor
 ·rintro ⟨f,t,h1,h2,h3,h4⟩
  exact ⟨f,t,⟨h1,h3.1⟩,⟨h2,h3.2⟩,h4⟩
 ·rintro ⟨f,t,h1,h2,h3⟩
  exact ⟨f,t,h1.1,h2.1,⟨h1.2,h2.2⟩,h3⟩
def BkS (b:List Int) (R:List LkI):Prop :=∃ E,E.Sublist (cnL b) ∧ slv b E = some R ∧ ∀ E' X,E'.Sublist (cnL b) → slv b E' = some X → ¬ erP E' E
theorem qzx {b:List Int} {E:List LkI} (h:E.Sublist (cnL b)):∀ i,i < E.length → (gL E i).2.2 = 0 :=fun i hi => by
 obtain ⟨f,t,_,_,_,e⟩ :=(qit b _ _).1 (h.mem (qd4 E hi))
 rw [e]
theorem qzy {b:List Int} {E:List LkI} (h:E.Sublist (cnL b)):∀ i,i < E.length → (gL E i).1 ≠ (gL E i).2.1 ∧ ∀ a,tch (gL E i) a → 0 ≤ a ∧ a < (b.length:Int) :=fun i hi => by
 obtain ⟨f,t,h1,h2,h3,e⟩ :=(qit b _ _).1 (h.mem (qd4 E hi))
 rw [e]
 refine ⟨fun z => ?_,fun a ta => ?_⟩
 ·have:f = t :=Int.ofNat.inj z
  subst this;omega
 ·have i1:Int.ofNat f = (f:Int) :=rfl
  have i2:Int.ofNat t = (t:Int) :=rfl
  rcases ta with z | z
  ·rw [← show Int.ofNat f = a from z];omega
  ·rw [← show Int.ofNat t = a from z];omega
theorem qvw {b:List Int} {E X:List LkI} (h:E.Sublist (cnL b)) (hs:slv b E = some X):StL b (cnL b) X ∧ zr X = E :=by
 obtain ⟨_,h2⟩ :=qme hs
 have e :=qyj (qzx h) h2.1
 refine ⟨⟨by rw [e];exact h,fun x hx => ?_,h2.2.2⟩,e⟩
 obtain ⟨i,hi,rfl⟩ :=qkq hx
 exact h2.2.1 i (by rw [← h2.1.1];exact hi)
theorem qqu {b:List Int} {X:List LkI} (h:StL b (cnL b) X) (hf:FR (zr X)):slv b (zr X) = some X :=qt1 (qzy h.1) hf h.sol
theorem BkS.least {b:List Int} (hb:b.length ≤ 5) {R Z:List LkI} (h:BkS b R) (hZ:StL b (cnL b) Z):¬ erP Z R ∧ (Z.length = R.length → FR (zr Z)) :=by
 obtain ⟨E,e1,e2,e3⟩ :=h
 obtain ⟨X,x1,x2,x3,x4⟩ :=StL.best (qzq hb) _ Z (Nat.le_refl _) hZ
 obtain ⟨_,k2⟩ :=qvw e1 e2
 have hX :=e3 _ _ x1.1 (qqu x1 x2)
 rw [← k2,qwg] at hX
 by_cases hf:FR (zr Z)
 ·have :=e3 _ _ hZ.1 (qqu hZ hf)
  rw [← k2,qwg] at this
  exact ⟨this,fun _ => hf⟩
 ·have h4 :=x4 hf
  have:¬ X.length < R.length :=fun z => hX (.inl z)
  refine ⟨fun z => ?_,fun z => by omega⟩
  rcases z with z | z
  ·omega
  ·have :=z.1;omega
theorem BkS.same {b:List Int} (hb:b.length ≤ 5) {R Z:List LkI} (h:BkS b R) (hZ:StL b (cnL b) Z) (hn:¬ erP R Z):Z = R :=by
 obtain ⟨h1,h2⟩ :=h.least hb hZ
 have e :=erP.tot h1 hn
 have hl:Z.length = R.length :=by rw [← qd2,e,qd2]
 have s :=qqu hZ (h2 hl)
 obtain ⟨E,e1,e2,_⟩ :=h
 rw [e,(qvw e1 e2).2,e2] at s
 injection s with s
 exact s.symm
end
end Go.Abs.Seat
namespace Go.Abs.Seat
noncomputable section
open Go Go.Abs Go.Proofs.Tryz
set_option maxRecDepth 100000
set_option maxHeartbeats 40000000
attribute [local irreducible] IntKind.wrap pEq

end
end Go.Abs.Seat
