/-
  The days of a year on which feasts are, as the law lists them.
-/
import Derived.Test.YtcnidgafdonioaaGreatVE3
import Derived.Test.YtcnidgafdonioaaGreatVU5
namespace Go.Abs.Seat
noncomputable section
open Go Go.Abs Go.Proofs.Tryz
set_option maxRecDepth 100000
set_option maxHeartbeats 40000000
attribute [local irreducible] IntKind.wrap pEq
def hitP (D:List Int) (F x:Int):Prop :=∃ i,i < D.length ∧ 0 ≤ gi D i ∧ gi D i - F + 1 = x
instance (D:List Int) (F x:Int):Decidable (hitP D F x) :=Classical.propDecidable _
def f20 (D:List Int) (F:Int):Nat → List Int
 | 0 => []
 |k + 1 => f20 D F k ++ if hitP D F (Int.ofNat (k + 1)) then [Int.ofNat (k + 1)] else []
theorem f20_len (D:List Int) (F:Int):∀ k,(f20 D F k).length ≤ k
 | 0 => Nat.le_refl 0
 |k + 1 => by
  have :=f20_len D F k
  rw [f20,List.length_append]
  split
  ·simp only [List.length_cons,List.length_nil];omega
  ·simp only [List.length_nil];omega
theorem rnF0 {m:Nat} {rs:List Nat} {L:List Int} {z:Int} {j c e:Nat} (hL:L = [z]) (hj:j < rs.length) (h1:rs.getD j 0 = c) (h2:e = m + j):RnV m rs (.lst [iv z] (0 + 1) (.ch c)) (.lst (ivs L) L.length (.ch e)) :=by
 subst hL
 exact RnV.ch hj h1 h2 (bdl_no (xs :=[iv z]) ⟨trivial,trivial⟩)
theorem rnF1 {m:Nat} {rs:List Nat} {L M:List Int} {z:Int} {j c e:Nat} (hM:M = L ++ [z]) (hj:j < rs.length) (h1:rs.getD j 0 = c) (h2:e = m + j):RnV m rs (.lst (ivs L ++ [iv z]) (L.length + (0 + 1)) (.ch c)) (.lst (ivs M) M.length (.ch e)) :=by
 subst hM
 have e1:∀ (l:List Int),ivs (l ++ [z]) = ivs l ++ [iv z] :=fun l => by
  induction l with
  |nil => rfl
  |cons y l ih => rw [List.cons_append,ivs,ivs,ih];rfl
 have e2:(L ++ [z]).length = L.length + (0 + 1) :=by simp
 rw [e1,e2]
 exact RnV.ch hj h1 h2 (by rw [← e1];exact bdl_no (ivs_no _))
theorem rnF2 {m:Nat} {rs:List Nat} {L M:List Int} {j c e:Nat} (hM:M = L) (hj:j < rs.length) (h1:rs.getD j 0 = c) (h2:e = m + j):RnV m rs (.lst (ivs L) L.length (.ch c)) (.lst (ivs M) M.length (.ch e)) :=by
 subst hM
 exact RnV.ch hj h1 h2 (bdl_no (ivs_no _))
theorem lenIs_f20 (D:List Int) (F:Int) (k:Nat):lenIs (ivs (f20 D F k)) ((f20 D F k).length * 1) = true :=by
 have :=lenIs_eq (ivs (f20 D F k))
 rw [ivs_len] at this
 rw [Nat.mul_one];exact this
theorem svNeF {L:List Int} (h:L ≠ []):sv L = nl L :=by
 cases L with
 |nil => exact absurd rfl h
 |cons x r => rfl
theorem feasts20_pure (D:List Int) (F:Int) (hD:D.length ≤ 6) (hb:∀ i,i < D.length → -1 ≤ gi D i ∧ gi D i ≤ 4000000) (hF:0 ≤ F ∧ F ≤ 4000000) {M:Nat} (hM:M = 400):Pure prog 29 [nl D,iv F] (sv (f20 D F M)) :=by
 have lD :=ivs_no D
 have lv :=sv_no (f20 D F M)
 refine pure_sym hE rfl (by repeat' (first | exact trivial | assumption | exact flat_no _ | exact (fun _ h => nomatch h) | apply And.intro)) (by repeat' (first | exact trivial | assumption | exact flat_no _ | exact (fun _ h => nomatch h) | apply And.intro)) fun S q pc hS hq hC hE => ?_
 conv => whnf
 refine sym_loopR hE hS (A :=Nat × Int × AV × List AObj) [] (fun x hx => nomatch hx) [0,1] (fun (_,x,v,_) => [(5,v),(6,iv x)]) (fun _ => []) (fun a => a.2.2.2) (fun (k,x,v,ux) => (x = Int.ofNat (k + 1) ∧ k ≤ M) ∧ (f20 D F k = [] ∧ v = .nils ∧ ux = [] ∨ f20 D F k ≠ [] ∧ v = .lst (ivs (f20 D F k)) (f20 D F k).length (.ch 0) ∧ ux = [.chain (f20 D F k).length 1 3])) (fun (k,_) => M - k) (0,1,.nils,[]) (Nat.le_of_ble_eq_true rfl) trivial rfl (by repeat' (first | exact trivial | exact Nat.zero_le _ | exact bdl_no lD | exact Nat.le_of_ble_eq_true rfl | exact bdl_no (by assumption) | exact bdl_no (flat_no _) | exact bdl_no (ivs_no _) | exact bdl_no (svs_no _) | exact Nat.max_le.2 ⟨Nat.le_of_ble_eq_true rfl,bdl_no (ivs_no _)⟩ | exact Nat.max_le.2 ⟨Nat.le_of_ble_eq_true rfl,bdl_no (svs_no _)⟩ | apply And.intro)) (by refine ⟨rfl,rfl,rfl,rfl,rfl,rfl,by decide,?_,?_,?_,by kernel_rfl,?_,?_⟩ <;> repeat' (first | exact trivial | exact rfl | exact ⟨_,rfl,RnV.wk (WkV.refl _) (Nat.zero_le _)⟩ | exact ⟨_,rfl,RnV.wk (WkV.refl _) (Nat.le_of_ble_eq_true rfl)⟩ | exact TrIw.refl _ _ _ _ _ | exact OWk.same _ | exact OWk.loop _ _ _ _ _ _ _ (by repeat' (first | exact trivial | exact WkV.refl _ | exact WkV.unk _ | apply And.intro)) | exact Nat.zero_le _ | exact ⟨_,rfl,RnV.wk (WkV.refl _) (bdl_no lD)⟩ | exact bdl_no lD | exact Nat.le_of_ble_eq_true rfl | exact bdl_no (by assumption) | exact bdl_no (flat_no _) | exact bdl_no (ivs_no _) | exact bdl_no (svs_no _) | exact Nat.max_le.2 ⟨Nat.le_of_ble_eq_true rfl,bdl_no (ivs_no _)⟩ | exact Nat.max_le.2 ⟨Nat.le_of_ble_eq_true rfl,bdl_no (svs_no _)⟩ | apply And.intro)) ⟨⟨rfl,Nat.zero_le _⟩,.inl ⟨rfl,rfl,rfl⟩⟩ ?_
 rintro ⟨k,x,v,ux⟩ ⟨⟨hx,hk⟩,⟨he,rfl,rfl⟩ | ⟨he,rfl,rfl⟩⟩ K hK
 ·obtain rfl:K = 0 :=hK
  have hx':x = (k:Int) + 1 :=hx
  have h4:x + 1 = Int.ofNat (k + 1 + 1) :=by rw [hx];rfl
  have eH:hitP D F x → f20 D F (k + 1) = f20 D F k ++ [x] :=fun h => by rw [f20,← hx,if_pos h]
  have eN:¬ hitP D F x → f20 D F (k + 1) = f20 D F k :=fun h => by rw [f20,← hx,if_neg h,List.append_nil]
  have eH0:hitP D F x → f20 D F (k + 1) = [x] :=fun h => by rw [eH h,he];rfl
  conv => whnf
  by_cases h2:k < M
  ·have h3:IntKind.i64.wrap (x + 1) = x + 1 :=wrapI (by omega) (by omega)
   refine bool_true (decide_eq_true (show x ≤ 400 by omega)) ?_
   conv => whnf
   refine sym_loopG hE hS (A :=Nat) [0,1,5,6] (fun i => [(7,nv i)]) (fun _ => []) (fun _ => []) (fun i => i ≤ D.length ∧ ∀ j,j < i → ¬ (0 ≤ gi D j ∧ gi D j - F + 1 = x)) (fun i => D.length - i) 0 (Nat.le_of_ble_eq_true rfl) rfl (by refine ⟨rfl,rfl,rfl,rfl,rfl,rfl,0,rfl,?_,?_⟩ <;> repeat' (first | exact trivial | exact rfl | exact ⟨_,rfl,WkV.refl _⟩ | exact ⟨_,rfl,WkV.own _ _ _⟩ | exact Nat.zero_le _ | exact bdl_no lD | exact Nat.le_of_ble_eq_true rfl | exact bdl_no (by assumption) | exact bdl_no (flat_no _) | exact bdl_no (ivs_no _) | exact bdl_no (svs_no _) | exact Nat.max_le.2 ⟨Nat.le_of_ble_eq_true rfl,bdl_no (ivs_no _)⟩ | exact Nat.max_le.2 ⟨Nat.le_of_ble_eq_true rfl,bdl_no (svs_no _)⟩ | apply And.intro)) ⟨Nat.zero_le _,fun j hj => absurd hj (Nat.not_lt_zero _)⟩ ?_
   intro i ⟨hi,hj⟩ K2 hK2
   obtain rfl:K2 = 0 :=hK2
   conv => whnf
   by_cases hi2:i < D.length
   ·have hi1:IntKind.i64.wrap (Int.ofNat i + 1) = Int.ofNat (i + 1) :=wrapN (m :=i + 1) (by omega)
    have hbi :=hb i hi2
    have hs1:IntKind.i64.wrap (gi D i - F) = gi D i - F :=wrapI (by omega) (by omega)
    have hs2:IntKind.i64.wrap (gi D i - F + 1) = gi D i - F + 1 :=wrapI (by omega) (by omega)
    refine bool_true (ltN_t hi2) ?_
    conv => whnf
    refine bool_true (inR_t (i :=i) (n :=D.length) hi2) ?_
    conv => whnf
    refine plan_as (nthP (nth_ivs1 (l :=D) (i :=i) hi2)) ?_
    conv => whnf
    by_cases h0:0 ≤ gi D i
    ·have e0:decide (gi D i ≥ 0) = true :=decide_eq_true h0
     by_cases h5:gi D i - F + 1 = x
     ·have e5:(IntKind.i64.wrap (IntKind.i64.wrap (gi D i - F) + 1) == x) = true :=by rw [hs1,hs2];exact beq_iff_eq.2 h5
      have hit:hitP D F x :=⟨i,hi2,h0,h5⟩
      repeat ((first
       |refine plan_as (nthP (nth_ivs1 hi2)) ?_
       |refine ko_rT e0 ?_
       |refine ko_sF e0 ?_
       |refine plan_as (pick_t e0) ?_
       |refine bool_true e0 ?_
       |refine ko_rT (inR_t hi2) ?_
       |refine ko_sF (inR_t hi2) ?_
       |refine plan_as (pick_t (inR_t hi2)) ?_
       |refine bool_true (inR_t hi2) ?_
       |refine ko_rT e5 ?_
       |refine ko_sF e5 ?_
       |refine plan_as (pick_t e5) ?_
       |refine bool_true e5 ?_
       |refine sym_drawn hS (by kernel_rfl) ?_);conv => whnf)
      refine .inl ?_
      conv => whnf
      exact ⟨(k + 1,x + 1,.lst (ivs (f20 D F (k + 1))) (f20 D F (k + 1)).length (.ch 0),[.chain (f20 D F (k + 1)).length 1 3]),[0],⟨⟨h4,h2⟩,.inr ⟨by rw [eH hit];simp,rfl,rfl⟩⟩,by show M - (k + 1) < M - k;omega,(by refine ⟨rfl,rfl,rfl,rfl,rfl,rfl,by decide,?_,?_,?_,by kernel_rfl,?_,?_⟩ <;> repeat' (first | exact trivial | exact rfl | exact ⟨_,rfl,RnV.wk (WkV.refl _) (Nat.zero_le _)⟩ | exact ⟨_,rfl,RnV.wk (WkV.refl _) (Nat.le_of_ble_eq_true rfl)⟩ | exact TrIw.refl _ _ _ _ _ | exact OWk.same _ | exact OWk.loop _ _ _ _ _ _ _ (by repeat' (first | exact trivial | exact WkV.refl _ | exact WkV.unk _ | apply And.intro)) | exact Nat.zero_le _ | exact ⟨_,rfl,RnV.wk (WkV.refl _) (bdl_no lD)⟩ | exact bdl_no lD | exact ⟨_,rfl,RnV.wk (WkV.int h3) (Nat.zero_le _)⟩ | exact ⟨_,rfl,rnF0 (j :=0) (eH0 hit) (by decide) rfl rfl⟩ | exact (congrArg (fun l => AObj.chain l.length 1 3) (eH0 hit).symm:AObj.chain (0 + 1) 1 3 = _) | exact Nat.le_of_ble_eq_true rfl | exact bdl_no (by assumption) | exact bdl_no (flat_no _) | exact bdl_no (ivs_no _) | exact bdl_no (svs_no _) | exact Nat.max_le.2 ⟨Nat.le_of_ble_eq_true rfl,bdl_no (ivs_no _)⟩ | exact Nat.max_le.2 ⟨Nat.le_of_ble_eq_true rfl,bdl_no (svs_no _)⟩ | apply And.intro))⟩
     ·have e5:(IntKind.i64.wrap (IntKind.i64.wrap (gi D i - F) + 1) == x) = false :=by rw [hs1,hs2];exact beq_eq_false_iff_ne.2 h5
      repeat ((first
       |refine plan_as (nthP (nth_ivs1 hi2)) ?_
       |refine ko_rT e0 ?_
       |refine ko_sF e0 ?_
       |refine plan_as (pick_t e0) ?_
       |refine bool_true e0 ?_
       |refine ko_rT (inR_t hi2) ?_
       |refine ko_sF (inR_t hi2) ?_
       |refine plan_as (pick_t (inR_t hi2)) ?_
       |refine bool_true (inR_t hi2) ?_
       |refine ko_sT e5 ?_
       |refine ko_rF e5 ?_
       |refine plan_as (pick_f e5) ?_
       |refine bool_false e5 ?_
       |refine sym_drawn hS (by kernel_rfl) ?_);conv => whnf)
      exact ⟨i + 1,⟨hi2,upto hj fun z => h5 z.2⟩,by omega,Nat.le_refl _,(by refine ⟨rfl,rfl,rfl,rfl,rfl,rfl,0,rfl,?_,?_⟩ <;> repeat' (first | exact trivial | exact rfl | exact ⟨_,rfl,WkV.refl _⟩ | exact ⟨_,rfl,WkV.own _ _ _⟩ | exact Nat.zero_le _ | exact ⟨_,rfl,WkV.int hi1⟩ | exact bdl_no lD | exact Nat.le_of_ble_eq_true rfl | exact bdl_no (by assumption) | exact bdl_no (flat_no _) | exact bdl_no (ivs_no _) | exact bdl_no (svs_no _) | exact Nat.max_le.2 ⟨Nat.le_of_ble_eq_true rfl,bdl_no (ivs_no _)⟩ | exact Nat.max_le.2 ⟨Nat.le_of_ble_eq_true rfl,bdl_no (svs_no _)⟩ | apply And.intro))⟩
    ·have e0:decide (gi D i ≥ 0) = false :=decide_eq_false h0
     repeat ((first
      |refine ko_sT e0 ?_
      |refine ko_rF e0 ?_
      |refine plan_as (pick_f e0) ?_
      |refine bool_false e0 ?_
      |refine sym_drawn hS (by kernel_rfl) ?_);conv => whnf)
     exact ⟨i + 1,⟨hi2,upto hj fun z => h0 z.1⟩,by omega,Nat.le_refl _,(by refine ⟨rfl,rfl,rfl,rfl,rfl,rfl,0,rfl,?_,?_⟩ <;> repeat' (first | exact trivial | exact rfl | exact ⟨_,rfl,WkV.refl _⟩ | exact ⟨_,rfl,WkV.own _ _ _⟩ | exact Nat.zero_le _ | exact ⟨_,rfl,WkV.int hi1⟩ | exact bdl_no lD | exact Nat.le_of_ble_eq_true rfl | exact bdl_no (by assumption) | exact bdl_no (flat_no _) | exact bdl_no (ivs_no _) | exact bdl_no (svs_no _) | exact Nat.max_le.2 ⟨Nat.le_of_ble_eq_true rfl,bdl_no (ivs_no _)⟩ | exact Nat.max_le.2 ⟨Nat.le_of_ble_eq_true rfl,bdl_no (svs_no _)⟩ | apply And.intro))⟩
   ·have hno:¬ hitP D F x :=fun ⟨j,k1,k2⟩ => hj j (by omega) k2
    refine bool_false (ltN_f hi2) ?_
    conv => whnf
    refine .inl ?_
    conv => whnf
    exact ⟨(k + 1,x + 1,.nils,[]),[],⟨⟨h4,h2⟩,.inl ⟨by rw [eN hno,he],rfl,rfl⟩⟩,by show M - (k + 1) < M - k;omega,(by refine ⟨rfl,rfl,rfl,rfl,rfl,rfl,by decide,?_,?_,?_,by kernel_rfl,?_,?_⟩ <;> repeat' (first | exact trivial | exact rfl | exact ⟨_,rfl,RnV.wk (WkV.refl _) (Nat.zero_le _)⟩ | exact ⟨_,rfl,RnV.wk (WkV.refl _) (Nat.le_of_ble_eq_true rfl)⟩ | exact TrIw.refl _ _ _ _ _ | exact OWk.same _ | exact OWk.loop _ _ _ _ _ _ _ (by repeat' (first | exact trivial | exact WkV.refl _ | exact WkV.unk _ | apply And.intro)) | exact Nat.zero_le _ | exact ⟨_,rfl,RnV.wk (WkV.refl _) (bdl_no lD)⟩ | exact bdl_no lD | exact ⟨_,rfl,RnV.wk (WkV.int h3) (Nat.zero_le _)⟩ | exact Nat.le_of_ble_eq_true rfl | exact bdl_no (by assumption) | exact bdl_no (flat_no _) | exact bdl_no (ivs_no _) | exact bdl_no (svs_no _) | exact Nat.max_le.2 ⟨Nat.le_of_ble_eq_true rfl,bdl_no (ivs_no _)⟩ | exact Nat.max_le.2 ⟨Nat.le_of_ble_eq_true rfl,bdl_no (svs_no _)⟩ | apply And.intro))⟩
  ·refine bool_false (decide_eq_false (show ¬ x ≤ 400 by omega)) ?_
   conv => whnf
   have e:k = M :=by omega
   rw [← e,he]
   exact ⟨_,rfl,Wk.refl _⟩
 ·obtain rfl:K = 1 :=hK
  have hx':x = (k:Int) + 1 :=hx
  have h4:x + 1 = Int.ofNat (k + 1 + 1) :=by rw [hx];rfl
  have eH:hitP D F x → f20 D F (k + 1) = f20 D F k ++ [x] :=fun h => by rw [f20,← hx,if_pos h]
  have eN:¬ hitP D F x → f20 D F (k + 1) = f20 D F k :=fun h => by rw [f20,← hx,if_neg h,List.append_nil]
  have hl :=f20_len D F k
  have eHc:hitP D F x → AObj.chain ((f20 D F k).length + (0 + 1)) 1 3 = .chain (f20 D F (k + 1)).length 1 3 :=fun h => by rw [eH h,List.length_append];rfl
  conv => whnf
  by_cases h2:k < M
  ·have h3:IntKind.i64.wrap (x + 1) = x + 1 :=wrapI (by omega) (by omega)
   refine bool_true (decide_eq_true (show x ≤ 400 by omega)) ?_
   conv => whnf
   refine sym_loopG hE hS (A :=Nat) [0,1,5,6] (fun i => [(7,nv i)]) (fun _ => []) (fun _ => []) (fun i => i ≤ D.length ∧ ∀ j,j < i → ¬ (0 ≤ gi D j ∧ gi D j - F + 1 = x)) (fun i => D.length - i) 0 (Nat.le_of_ble_eq_true rfl) rfl (by refine ⟨rfl,rfl,rfl,rfl,rfl,rfl,1,rfl,?_,?_⟩ <;> repeat' (first | exact trivial | exact rfl | exact ⟨_,rfl,WkV.refl _⟩ | exact ⟨_,rfl,WkV.own _ _ _⟩ | exact Nat.zero_le _ | exact bdl_no lD | exact Nat.le_of_ble_eq_true rfl | exact bdl_no (by assumption) | exact bdl_no (flat_no _) | exact bdl_no (ivs_no _) | exact bdl_no (svs_no _) | exact Nat.max_le.2 ⟨Nat.le_of_ble_eq_true rfl,bdl_no (ivs_no _)⟩ | exact Nat.max_le.2 ⟨Nat.le_of_ble_eq_true rfl,bdl_no (svs_no _)⟩ | apply And.intro)) ⟨Nat.zero_le _,fun j hj => absurd hj (Nat.not_lt_zero _)⟩ ?_
   intro i ⟨hi,hj⟩ K2 hK2
   obtain rfl:K2 = 1 :=hK2
   conv => whnf
   by_cases hi2:i < D.length
   ·have hi1:IntKind.i64.wrap (Int.ofNat i + 1) = Int.ofNat (i + 1) :=wrapN (m :=i + 1) (by omega)
    have hbi :=hb i hi2
    have hs1:IntKind.i64.wrap (gi D i - F) = gi D i - F :=wrapI (by omega) (by omega)
    have hs2:IntKind.i64.wrap (gi D i - F + 1) = gi D i - F + 1 :=wrapI (by omega) (by omega)
    refine bool_true (ltN_t hi2) ?_
    conv => whnf
    refine bool_true (inR_t (i :=i) (n :=D.length) hi2) ?_
    conv => whnf
    refine plan_as (nthP (nth_ivs1 (l :=D) (i :=i) hi2)) ?_
    conv => whnf
    by_cases h0:0 ≤ gi D i
    ·have e0:decide (gi D i ≥ 0) = true :=decide_eq_true h0
     by_cases h5:gi D i - F + 1 = x
     ·have e5:(IntKind.i64.wrap (IntKind.i64.wrap (gi D i - F) + 1) == x) = true :=by rw [hs1,hs2];exact beq_iff_eq.2 h5
      have hit:hitP D F x :=⟨i,hi2,h0,h5⟩
      repeat ((first
       |refine plan_as (nthP (nth_ivs1 hi2)) ?_
       |refine ko_rT e0 ?_
       |refine ko_sF e0 ?_
       |refine plan_as (pick_t e0) ?_
       |refine bool_true e0 ?_
       |refine ko_rT (inR_t hi2) ?_
       |refine ko_sF (inR_t hi2) ?_
       |refine plan_as (pick_t (inR_t hi2)) ?_
       |refine bool_true (inR_t hi2) ?_
       |refine ko_rT e5 ?_
       |refine ko_sF e5 ?_
       |refine plan_as (pick_t e5) ?_
       |refine bool_true e5 ?_
       |refine sym_drawn hS (by kernel_rfl) ?_);conv => whnf)
      refine bool_true (decide_eq_true (show ((f20 D F k).length + (0 + 1)) * 8 ≤ 140737488355328 by omega)) ?_
      conv => whnf
      refine bool_true (decide_eq_true (show (f20 D F k).length + (0 + 1) ≤ 9223372036854775807 by omega)) ?_
      conv => whnf
      refine bool_true (lenIs_f20 D F k) ?_
      conv => whnf
      refine bool_true (decide_eq_true rfl) ?_
      conv => whnf
      refine .inl ?_
      conv => whnf
      exact ⟨(k + 1,x + 1,.lst (ivs (f20 D F (k + 1))) (f20 D F (k + 1)).length (.ch 0),[.chain (f20 D F (k + 1)).length 1 3]),[0],⟨⟨h4,h2⟩,.inr ⟨by rw [eH hit];simp,rfl,rfl⟩⟩,by show M - (k + 1) < M - k;omega,(by refine ⟨rfl,rfl,rfl,rfl,rfl,rfl,by decide,?_,?_,?_,by kernel_rfl,?_,?_⟩ <;> repeat' (first | exact trivial | exact rfl | exact ⟨_,rfl,RnV.wk (WkV.refl _) (Nat.zero_le _)⟩ | exact ⟨_,rfl,RnV.wk (WkV.refl _) (Nat.le_of_ble_eq_true rfl)⟩ | exact TrIw.refl _ _ _ _ _ | exact OWk.same _ | exact OWk.loop _ _ _ _ _ _ _ (by repeat' (first | exact trivial | exact WkV.refl _ | exact WkV.unk _ | apply And.intro)) | exact Nat.zero_le _ | exact ⟨_,rfl,RnV.wk (WkV.refl _) (bdl_no lD)⟩ | exact bdl_no lD | exact ⟨_,rfl,RnV.wk (WkV.int h3) (Nat.zero_le _)⟩ | exact ⟨_,rfl,rnF1 (j :=0) (eH hit) (by decide) rfl rfl⟩ | exact eHc hit | exact Nat.le_of_ble_eq_true rfl | exact bdl_no (by assumption) | exact bdl_no (flat_no _) | exact bdl_no (ivs_no _) | exact bdl_no (svs_no _) | exact Nat.max_le.2 ⟨Nat.le_of_ble_eq_true rfl,bdl_no (ivs_no _)⟩ | exact Nat.max_le.2 ⟨Nat.le_of_ble_eq_true rfl,bdl_no (svs_no _)⟩ | apply And.intro))⟩
     ·have e5:(IntKind.i64.wrap (IntKind.i64.wrap (gi D i - F) + 1) == x) = false :=by rw [hs1,hs2];exact beq_eq_false_iff_ne.2 h5
      repeat ((first
       |refine plan_as (nthP (nth_ivs1 hi2)) ?_
       |refine ko_rT e0 ?_
       |refine ko_sF e0 ?_
       |refine plan_as (pick_t e0) ?_
       |refine bool_true e0 ?_
       |refine ko_rT (inR_t hi2) ?_
       |refine ko_sF (inR_t hi2) ?_
       |refine plan_as (pick_t (inR_t hi2)) ?_
       |refine bool_true (inR_t hi2) ?_
       |refine ko_sT e5 ?_
       |refine ko_rF e5 ?_
       |refine plan_as (pick_f e5) ?_
       |refine bool_false e5 ?_
       |refine sym_drawn hS (by kernel_rfl) ?_);conv => whnf)
      exact ⟨i + 1,⟨hi2,upto hj fun z => h5 z.2⟩,by omega,Nat.le_refl _,(by refine ⟨rfl,rfl,rfl,rfl,rfl,rfl,1,rfl,?_,?_⟩ <;> repeat' (first | exact trivial | exact rfl | exact ⟨_,rfl,WkV.refl _⟩ | exact ⟨_,rfl,WkV.own _ _ _⟩ | exact Nat.zero_le _ | exact ⟨_,rfl,WkV.int hi1⟩ | exact bdl_no lD | exact Nat.le_of_ble_eq_true rfl | exact bdl_no (by assumption) | exact bdl_no (flat_no _) | exact bdl_no (ivs_no _) | exact bdl_no (svs_no _) | exact Nat.max_le.2 ⟨Nat.le_of_ble_eq_true rfl,bdl_no (ivs_no _)⟩ | exact Nat.max_le.2 ⟨Nat.le_of_ble_eq_true rfl,bdl_no (svs_no _)⟩ | apply And.intro))⟩
    ·have e0:decide (gi D i ≥ 0) = false :=decide_eq_false h0
     repeat ((first
      |refine ko_sT e0 ?_
      |refine ko_rF e0 ?_
      |refine plan_as (pick_f e0) ?_
      |refine bool_false e0 ?_
      |refine sym_drawn hS (by kernel_rfl) ?_);conv => whnf)
     exact ⟨i + 1,⟨hi2,upto hj fun z => h0 z.1⟩,by omega,Nat.le_refl _,(by refine ⟨rfl,rfl,rfl,rfl,rfl,rfl,1,rfl,?_,?_⟩ <;> repeat' (first | exact trivial | exact rfl | exact ⟨_,rfl,WkV.refl _⟩ | exact ⟨_,rfl,WkV.own _ _ _⟩ | exact Nat.zero_le _ | exact ⟨_,rfl,WkV.int hi1⟩ | exact bdl_no lD | exact Nat.le_of_ble_eq_true rfl | exact bdl_no (by assumption) | exact bdl_no (flat_no _) | exact bdl_no (ivs_no _) | exact bdl_no (svs_no _) | exact Nat.max_le.2 ⟨Nat.le_of_ble_eq_true rfl,bdl_no (ivs_no _)⟩ | exact Nat.max_le.2 ⟨Nat.le_of_ble_eq_true rfl,bdl_no (svs_no _)⟩ | apply And.intro))⟩
   ·have hno:¬ hitP D F x :=fun ⟨j,k1,k2⟩ => hj j (by omega) k2
    refine bool_false (ltN_f hi2) ?_
    conv => whnf
    refine .inl ?_
    conv => whnf
    exact ⟨(k + 1,x + 1,.lst (ivs (f20 D F (k + 1))) (f20 D F (k + 1)).length (.ch 0),[.chain (f20 D F (k + 1)).length 1 3]),[0],⟨⟨h4,h2⟩,.inr ⟨by rw [eN hno];exact he,rfl,rfl⟩⟩,by show M - (k + 1) < M - k;omega,(by refine ⟨rfl,rfl,rfl,rfl,rfl,rfl,by decide,?_,?_,?_,by kernel_rfl,?_,?_⟩ <;> repeat' (first | exact trivial | exact rfl | exact ⟨_,rfl,RnV.wk (WkV.refl _) (Nat.zero_le _)⟩ | exact ⟨_,rfl,RnV.wk (WkV.refl _) (Nat.le_of_ble_eq_true rfl)⟩ | exact TrIw.refl _ _ _ _ _ | exact OWk.same _ | exact OWk.loop _ _ _ _ _ _ _ (by repeat' (first | exact trivial | exact WkV.refl _ | exact WkV.unk _ | apply And.intro)) | exact Nat.zero_le _ | exact ⟨_,rfl,RnV.wk (WkV.refl _) (bdl_no lD)⟩ | exact bdl_no lD | exact ⟨_,rfl,RnV.wk (WkV.int h3) (Nat.zero_le _)⟩ | exact ⟨_,rfl,rnF2 (j :=0) (eN hno) (by decide) rfl rfl⟩ | exact congrArg (fun l => AObj.chain l.length 1 3) (eN hno).symm | exact Nat.le_of_ble_eq_true rfl | exact bdl_no (by assumption) | exact bdl_no (flat_no _) | exact bdl_no (ivs_no _) | exact bdl_no (svs_no _) | exact Nat.max_le.2 ⟨Nat.le_of_ble_eq_true rfl,bdl_no (ivs_no _)⟩ | exact Nat.max_le.2 ⟨Nat.le_of_ble_eq_true rfl,bdl_no (svs_no _)⟩ | apply And.intro))⟩
  ·refine bool_false (decide_eq_false (show ¬ x ≤ 400 by omega)) ?_
   conv => whnf
   have e:k = M :=by omega
   rw [← e]
   rw [svNeF he]
   exact ⟨_,rfl,wk_own rfl⟩
end
end Go.Abs.Seat
