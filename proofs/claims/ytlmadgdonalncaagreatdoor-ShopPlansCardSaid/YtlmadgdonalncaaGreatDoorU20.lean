/-
  The function known returns true.
-/
import Derived.Test.YtlmadgdonalncaaGreatDoorU17
import Derived.Test.YtlmadgdonalncaaGreatDoorU19
import Derived.Test.YtlmadgdonalncaaGreatDoorK3
import Derived.Test.YtlmadgdonalncaaGreatDoorU11
import Derived.Test.YtlmadgdonalncaaGreatDoorB7
import Derived.Test.YtlmadgdonalncaaGreatDoorU18
import Derived.Test.YtlmadgdonalncaaGreatDoorU10
import Derived.Test.YtlmadgdonalncaaGreatDoorU12
import Derived.Test.YtlmadgdonalncaaGreatDoorU7
namespace Go.Abs.Seat
open Go Go.Abs Go.Proofs.Tryz
set_option maxRecDepth 100000
noncomputable def table:Memo :=[
 (48,[aP],.tup [rows .no [1,1,1,2,1,3,3,4] 4,.lst [.bool true,.bool false,.bool true,.bool true] 4 .no,i64 0]),
 (50,[aP,.agg [i64 0,i64 10,i64 30]],.tup [ints .no [0,1],i64 0]),
 (52,[aP,i64 10,i64 20,i64 0,fr 2 5],.tup [rows .no [1,12,15] 1,i64 0]),
 (53,[aP,i64 10,i64 20,fr 43 30],.tup [.agg [i64 0,i64 20,i64 14],i64 0]),
 (40,[i64 100,i64 2,ints .full [10,20,15,10]],.tup [ints .no [0,0,0,1],i64 2,i64 0]),
 (14,[i64 3,aE],.tup [ints .no [-9,6,3],i64 0]),
 (15,[i64 3,aE],.tup [rows .no [1,0,6,2,0,3] 2,i64 0]),
 (57,[aB],.tup [i64 43,i64 23,i64 0]),
 (44,[aText],.tup [.agg [rows .no [0,4,4] 1,ints .no [1]],i64 0]),
 (25,[aW,aJ],.tup [ints .no [0,1,0],i64 112,i64 0]),
 (24,[aW,aJ,ints .full [0,1,0]],.tup [ints .no [2,1,3],i64 112,i64 0])]
theorem table_ok:MOK prog table :=(MOK.cons pRates (MOK.cons pSpoils (MOK.cons pChanges (MOK.cons pAdds (MOK.cons pSheets (MOK.cons pBalances (MOK.cons pSettle (MOK.cons pBill (MOK.cons pRead (MOK.cons pPlan (MOK.cons pDone MOK.nil)))))))))))
theorem gknown:GoalM noMu table 13 [] (.bool true) :=of_eq_true (by kernel_rfl)
theorem pknown:Pure prog 13 [] (.bool true) :=gknown.pure table_ok (by kernel_rfl)
end Go.Abs.Seat
namespace Go.Abs.Seat
noncomputable section
open Go Go.Abs Go.Proofs.Tryz
set_option maxRecDepth 100000
set_option maxHeartbeats 40000000
attribute [local irreducible] IntKind.wrap pEq qd2
def wlOk (T:List Int):Prop :=allT T ∧ 1 ≤ T.length ∧ T.length ≤ 8
instance (T:List Int):Decidable (wlOk T) :=Classical.propDecidable _
theorem qyb (x y:Nat):maxI (Int.ofNat x) (Int.ofNat y) = Int.ofNat (max x y) :=by
 unfold maxI
 by_cases h:Int.ofNat y > Int.ofNat x
 ·have h2:x < y :=Int.ofNat_lt.1 h
  rw [if_pos h,Nat.max_eq_right (by omega)]
 ·have h2:¬ x < y :=fun k => h (Int.ofNat_lt.2 k)
  rw [if_neg h,Nat.max_eq_left (by omega)]
def mnA:Nat → List Nat → Nat
 |a,[] => a
 |a,x :: r => mnA (max a (x + 1)) r
theorem qop (l:List Nat) {i:Nat} (h:i < l.length):l.drop i = gn l i :: l.drop (i + 1) :=by
 rw [List.drop_eq_getElem_cons h]
 simp [gn,List.getD,h]
def ldI (saw s:Nat):List (Nat × Nat) → Int → Int
 | [],a => a
 |x :: r,a => ldI saw s r (if x.1 = s then a + Int.ofNat saw + Int.ofNat (2 * x.2) else a)
def pkP (long saw:Nat) (T sh:List Nat):Prop :=(∀ i,i < sh.length → gn sh i ≤ mnA 0 (sh.take i)) ∧ ∀ s,s < mnA 0 sh → ldI saw s (sh.zip T) (-Int.ofNat saw) ≤ Int.ofNat long
instance (long saw:Nat) (T sh:List Nat):Decidable (pkP long saw T sh) :=Classical.propDecidable _


end
end Go.Abs.Seat
namespace Go.Abs.Seat
noncomputable section
open Go Go.Abs Go.Proofs.Tryz
set_option maxRecDepth 100000
def bfr:List Nat → List Nat → Bool
 |a :: r,b :: q => if a = b then bfr r q else decide (a < b)
 | _,_ => false
end
end Go.Abs.Seat
namespace Go.Abs.Seat
noncomputable section
open Go Go.Abs Go.Proofs.Tryz
set_option maxRecDepth 100000
set_option maxHeartbeats 4000000
def hsD (J:List LkI) (P:List Int) (i:Int):Nat → Nat
 | 0 => 0
 |k + 1 => if gi P k = i then hsD J P i k + (gL J k).1.toNat else hsD J P i k
def mxD (W J:List LkI) (P:List Int) (i:Int):Nat → Nat
 | 0 => 0
 |k + 1 => if gi P k = i then max (mxD W J P i k) (dyN W J P k) else mxD W J P i k
theorem qu6 (J:List LkI) (P:List Int) (i:Int):∀ k,hsD J P i k = (hrs J (ownN P i k)).sum
 | 0 => rfl
 |k + 1 => by
  rw [hsD,qep,qu6 J P i k]
  by_cases c:gi P k = i
  ·rw [if_pos c,if_pos c];simp [hrs]
  ·rw [if_neg c,if_neg c]
theorem qrd {W J:List LkI} {P:List Int} {i:Int} {c:Nat}:∀ k,(∀ j,j < k → gi P j = i → dyN W J P j ≤ c) → mxD W J P i k ≤ c
 | 0,_ => Nat.zero_le _
 |k + 1,h => by
  have ih :=qrd (W :=W) (J :=J) k fun j hj => h j (by omega)
  rw [mxD]
  split
  ·rename_i e
   exact Nat.max_le.2 ⟨ih,h k (Nat.lt_succ_self k) e⟩
  ·exact ih
theorem qu3 {W J:List LkI} {P:List Int} {i:Int} {j:Nat} (e:gi P j = i):∀ k,j < k → dyN W J P j ≤ mxD W J P i k
 |k + 1,h => by
  rw [mxD]
  by_cases c:j = k
  ·subst c;rw [if_pos e];exact Nat.le_max_right _ _
  ·have ih :=qu3 (W :=W) (J :=J) e k (by omega)
   split
   ·exact Nat.le_trans ih (Nat.le_max_left _ _)
   ·exact ih
theorem qp3 (J:List LkI) (q:Nat → Bool):∀ l:List Nat,(hrs J (l.filter q)).sum ≤ (hrs J l).sum
 | [] => Nat.le_refl _
 |a :: r => by
  have ih :=qp3 J q r
  by_cases c:q a = true
  ·rw [List.filter_cons_of_pos c]
   simp only [hrs,List.map_cons,List.sum_cons] at ih ⊢
   omega
  ·rw [List.filter_cons_of_neg c]
   simp only [hrs,List.map_cons,List.sum_cons] at ih ⊢
   omega
theorem qll {W J:List LkI} {P:List Int} (hW:areW W) (hJ:areJ J) (_hp:isPl W J P) {i:Nat} (hi:i < W.length) :
  mxD W J P (Int.ofNat i) J.length ≤ 1000 ∧ hsD J P (Int.ofNat i) J.length ≤ 240 ∧ hsD J P (Int.ofNat i) J.length ≤ mxD W J P (Int.ofNat i) J.length * (gL W i).2.1.toNat ∧
   (0 < hsD J P (Int.ofNat i) J.length → (mxD W J P (Int.ofNat i) J.length - 1) * (gL W i).2.1.toNat < hsD J P (Int.ofNat i) J.length) :=by
 have hw :=(hW.2 i hi).2.1
 have hm6 :=hJ.1.2
 have hle :=qfw hJ P
 have hT :=qu6 J P (Int.ofNat i) J.length
 obtain ⟨d,hd⟩ : ∃ d,d = (gL W i).2.1.toNat :=⟨_,rfl⟩
 have hd1:1 ≤ d ∧ d ≤ 12 :=by omega
 rw [← hd]
 have hdy:∀ j,gi P j = Int.ofNat i → dyN W J P j = (hrN J P j J.length + d - 1) / d :=fun j e => by
  unfold dyN
  rw [e,hd];rfl
 have hhr:∀ j,gi P j = Int.ofNat i → hrN J P j J.length ≤ hsD J P (Int.ofNat i) J.length :=fun j e => by
  rw [hT,qmn,e]
  exact qp3 J _ _
 by_cases hE:ownN P (Int.ofNat i) J.length = []
 ·have h0:hsD J P (Int.ofNat i) J.length = 0 :=by rw [hT,hE];rfl
  have h1:mxD W J P (Int.ofNat i) J.length = 0 :=by
   refine Nat.le_zero.1 (qrd _ fun j hj e => ?_)
   have:j ∈ ownN P (Int.ofNat i) J.length :=qcd.2 ⟨hj,e⟩
   rw [hE] at this
   cases this
  rw [h0,h1]
  exact ⟨by decide,by decide,Nat.zero_le _,fun h => absurd h (Nat.lt_irrefl 0)⟩
 ·obtain ⟨p1,p2⟩ :=qhd J (qhp P (Int.ofNat i) J.length)
  have hlen:0 < (srtJ J (ownN P (Int.ofNat i) J.length)).length :=by
   rw [p1.length_eq]
   exact List.length_pos_iff.2 hE
  obtain ⟨t,ht⟩ : ∃ t,(srtJ J (ownN P (Int.ofNat i) J.length)).length = t + 1 :=⟨_,(Nat.succ_pred_eq_of_pos hlen).symm⟩
  have hk :=qof J (P :=P) (m :=J.length) (t :=t) (k :=Int.ofNat i) (by omega)
  obtain ⟨j,hj⟩ : ∃ j,j = (srtJ J (ownN P (Int.ofNat i) J.length))[t]'(by omega) :=⟨_,rfl⟩
  rw [← hj] at hk
  obtain ⟨k1,k2⟩ :=hk
  have hjm:j < J.length :=by
   have:j ∈ ownN P (Int.ofNat i) J.length :=p1.mem_iff.1 (by rw [hj];exact List.getElem_mem _)
   exact (qcd.1 this).1
  rw [← ht,List.take_length,qog J p1,← hT] at k2
  have hTle:hsD J P (Int.ofNat i) J.length ≤ 240 :=by rw [k2];have :=hle j J.length (Nat.le_refl _);omega
  obtain ⟨T,hTT⟩ : ∃ T,T = hsD J P (Int.ofNat i) J.length :=⟨_,rfl⟩
  rw [← hTT] at k2 hhr hTle ⊢
  have hmx:mxD W J P (Int.ofNat i) J.length = (T + d - 1) / d :=by
   refine Nat.le_antisymm (qrd _ fun j' hj' e => ?_) ?_
   ·rw [hdy j' e]
    have :=hhr j' e
    exact Nat.div_le_div_right (by omega)
   ·have :=qu3 (W :=W) (J :=J) k1 J.length hjm
    rw [hdy j k1,← k2] at this
    exact this
  rw [hmx]
  have e1 :=Nat.div_add_mod (T + d - 1) d
  have e2 :=Nat.mod_lt (T + d - 1) (show 0 < d by omega)
  obtain ⟨q,hq⟩ : ∃ q,q = (T + d - 1) / d :=⟨_,rfl⟩
  rw [← hq] at e1 ⊢
  have e3:d * q = q * d :=Nat.mul_comm d q
  have hq1:q ≤ q * d :=Nat.le_mul_of_pos_right q (by omega)
  refine ⟨by omega,hTle,by omega,fun h0 => ?_⟩
  have e4:(q - 1) * d = q * d - d :=by rw [Nat.sub_mul,Nat.one_mul]
  omega
theorem qxg {W J:List LkI} {P:List Int} (hW:areW W) (hJ:areJ J) (hp:isPl W J P) {i:Nat} (hi:i < J.length):1 ≤ dyN W J P i :=by
 have hjo :=(hp.2 i (by rw [hp.1];exact hi)).1
 have hw :=(hW.2 (gi P i).toNat (by omega)).2.1
 have hh :=(hJ.2 i hi).1
 have h1:(gL J i).1.toNat ≤ hrN J P i J.length :=by
  have key:∀ m,i < m → (gL J i).1.toNat ≤ hrN J P i m :=by
   intro m
   induction m with
   |zero => intro h;omega
   |succ m ih =>
    intro h
    rw [hrN]
    by_cases c:i = m
    ·subst c
     rw [if_pos ⟨rfl,.inr ⟨rfl,Nat.le_refl _⟩⟩];omega
    ·have :=ih (by omega)
     split <;> omega
  exact key _ hi
 unfold dyN
 rw [Nat.le_div_iff_mul_le (by omega)]
 omega
theorem qyw {W J:List LkI} {P:List Int} (hW:areW W) (hJ:areJ J) (hp:isPl W J P):decide (inTm W J P) = true ↔ ∀ i,i < J.length → dyOk J (dnL W J P) i :=by
 rw [decide_eq_true_iff]
 constructor
 ·intro h i hi
  unfold dyOk
  rw [qev W J P hi]
  have :=qxg hW hJ hp hi
  have h2 :=h i hi
  exact ⟨by show (1:Int) ≤ ((dyN W J P i:Nat):Int);omega,h2⟩
 ·intro h i hi
  have :=(h i hi).2
  rw [qev W J P hi] at this
  exact this
theorem qvr:∀ {a b:List Nat},a.length = b.length → (bfr a b = true ↔ ltP (zl a) (zl b))
 | [],[],_ => ⟨fun h => (by cases h),fun h => h.elim⟩
 | [],_ :: _,h => (by cases h)
 | _ :: _,[],h => (by cases h)
 |x :: a,y :: b,h => by
  have ih :=qvr (a :=a) (b :=b) (by simpa using h)
  show (if x = y then bfr a b else decide (x < y)) = true ↔ (Int.ofNat x < Int.ofNat y ∨ Int.ofNat x = Int.ofNat y ∧ ltP (zl a) (zl b))
  by_cases c:x = y
  ·rw [if_pos c,ih]
   subst c
   exact ⟨fun z => .inr ⟨rfl,z⟩,fun z => z.elim (fun z => absurd z (Int.lt_irrefl _)) fun z => z.2⟩
  ·rw [if_neg c,decide_eq_true_iff]
   exact ⟨fun z => .inl (Int.ofNat_lt.2 z),fun z => z.elim (fun z => Int.ofNat_lt.1 z) fun z => absurd (Int.ofNat.inj z.1) c⟩
theorem qna {P:List Int} (h:∀ i,i < P.length → 0 ≤ gi P i):P = zl (P.map Int.toNat) :=by
 unfold zl
 rw [List.map_map]
 refine List.ext_getElem (by simp) fun i h1 h2 => ?_
 have :=h i h1
 have e:gi P i = P[i] :=by simp [gi,List.getD,h1]
 rw [e] at this
 rw [List.getElem_map]
 exact (Int.toNat_of_nonneg this).symm
end
end Go.Abs.Seat
namespace Go.Abs.Seat
noncomputable section
open Go Go.Abs Go.Proofs.Tryz
set_option maxRecDepth 100000
set_option maxHeartbeats 40000000
attribute [local irreducible] IntKind.wrap pEq qd2

end
end Go.Abs.Seat
namespace Go.Abs.Seat
noncomputable section
open Go Go.Abs Go.Proofs.Tryz
set_option maxRecDepth 100000
set_option maxHeartbeats 40000000
attribute [local irreducible] IntKind.wrap pEq





end
end Go.Abs.Seat
namespace Go.Abs.Seat
noncomputable section
open Go Go.Abs Go.Proofs.Tryz
set_option maxRecDepth 100000
set_option maxHeartbeats 40000000

end
end Go.Abs.Seat
namespace Go.Abs.Seat
noncomputable section
open Go Go.Abs Go.Proofs.Tryz
set_option maxRecDepth 100000
set_option maxHeartbeats 40000000
attribute [local irreducible] IntKind.wrap pEq
def cgOk (N:List Lk) (i a b:Int):Prop :=(0 ≤ i ∧ i < (N.length:Int)) ∧ (tth a ∧ tth b) ∧ ¬ (a = Int.ofNat (gN N i.toNat).2.1 ∧ b = Int.ofNat (gN N i.toNat).2.2)
instance (N:List Lk) (i a b:Int):Decidable (cgOk N i a b) :=Classical.propDecidable _
theorem pcN.len {N:List Lk} {H:List Nat} (h:pcN N H) {N2:List Lk} (h2:okN N2) (hl:N2.length = N.length):pcN N2 H :=
 ⟨h2,by rw [hl];exact h.l1,by rw [hl];exact h.l5,h.h1,h.h4,fun x hx => by rw [hl];exact h.hd x hx⟩



end
end Go.Abs.Seat
