/-
  What a guess turns its hand by.
-/
import Derived.Test.YtcnidgafdonioaaGreatVJ6
import Derived.Test.YtcnidgafdonioaaGreatVU10
namespace Go.Abs.Seat
noncomputable section
open Go Go.Abs Go.Proofs.Tryz
set_option maxRecDepth 100000
set_option maxHeartbeats 40000000
attribute [local irreducible] IntKind.wrap pEq
def prL:List Nat → List (Nat × Nat)
 |a :: b :: r => (a,b) :: prL r
 | _ => []
theorem prL_teL:∀ l,prL (teL l) = l
 | [] => rfl
 |(a,b) :: r => congrArg ((a,b) :: ·) (prL_teL r)
def rdT (t:List Nat):Nat × Nat :=redF (xP (prL t)) (yP (prL t))
structure tOk (t:List Nat):Prop where
 ln:t.length = 2 ∨ t.length = 4 ∨ t.length = 6
 h:∀ j,j < t.length → 4 ≤ gn t j ∧ gn t j ≤ 60
theorem tOk.cases {t:List Nat} (h:tOk t):(∃ a b,t = [a,b]) ∨ (∃ a b c d,t = [a,b,c,d]) ∨ ∃ a b c d e f,t = [a,b,c,d,e,f] :=by
 match t,h.ln with
 | [a,b],_ => exact .inl ⟨a,b,rfl⟩
 | [a,b,c,d],_ => exact .inr (.inl ⟨a,b,c,d,rfl⟩)
 | [a,b,c,d,e,f],_ => exact .inr (.inr ⟨a,b,c,d,e,f,rfl⟩)
 | [],h => exact absurd h (by decide)
 | [_],h => exact absurd h (by simp)
 | [_,_,_],h => exact absurd h (by simp)
 | [_,_,_,_,_],h => exact absurd h (by simp)
 | _ :: _ :: _ :: _ :: _ :: _ :: _ :: _,h => simp at h
theorem tOk.tv {t:List Nat} (h:tOk t):TV (pv (zp (prL t))) (prL t).length (rdT t).1 (rdT t).2 :=by
 have hh :=h.h
 refine tv_zp (tq :=fun n => 4 ≤ n ∧ n ≤ 60) (fun _ h => h) ?_ ?_
 ·obtain ⟨a,b,rfl⟩ | ⟨a,b,c,d,rfl⟩ | ⟨a,b,c,d,e,f,rfl⟩ :=h.cases
  all_goals simp [prL]
 ·obtain ⟨a,b,rfl⟩ | ⟨a,b,c,d,rfl⟩ | ⟨a,b,c,d,e,f,rfl⟩ :=h.cases
  ·exact ⟨⟨hh 0 (by simp),hh 1 (by simp)⟩,trivial⟩
  ·exact ⟨⟨hh 0 (by simp),hh 1 (by simp)⟩,⟨hh 2 (by simp),hh 3 (by simp)⟩,trivial⟩
  ·exact ⟨⟨hh 0 (by simp),hh 1 (by simp)⟩,⟨hh 2 (by simp),hh 3 (by simp)⟩,⟨hh 4 (by simp),hh 5 (by simp)⟩,trivial⟩
theorem ixT0 {T:List Nat} {i:Nat} (h:2 * i + 1 < T.length) (h6:T.length ≤ 6):inR (IntKind.i64.wrap (2 * Int.ofNat i)) (zl T).length = true ∧ nth (ivs (zl T)) ((IntKind.i64.wrap (2 * Int.ofNat i)).toNat * 1) = some (nv (gn T (2 * i))) :=by
 have hz :=zl_len T
 have w0:IntKind.i64.wrap (2 * Int.ofNat i) = Int.ofNat (2 * i) :=wrapN (m :=2 * i) (by omega)
 rw [w0]
 exact ⟨inR_t (by omega),by rw [show (Int.ofNat (2 * i)).toNat = 2 * i from rfl,nth_ivs1 (by omega),gi_zl T (by omega)]⟩
theorem ixT1 {T:List Nat} {i:Nat} (h:2 * i + 1 < T.length) (h6:T.length ≤ 6):inR (IntKind.i64.wrap (IntKind.i64.wrap (2 * Int.ofNat i) + 1)) (zl T).length = true ∧ nth (ivs (zl T)) ((IntKind.i64.wrap (IntKind.i64.wrap (2 * Int.ofNat i) + 1)).toNat * 1) = some (nv (gn T (2 * i + 1))) :=by
 have hz :=zl_len T
 have w0:IntKind.i64.wrap (2 * Int.ofNat i) = Int.ofNat (2 * i) :=wrapN (m :=2 * i) (by omega)
 have w1:IntKind.i64.wrap (Int.ofNat (2 * i) + 1) = Int.ofNat (2 * i + 1) :=wrapN (m :=2 * i + 1) (by omega)
 rw [w0,w1]
 exact ⟨inR_t (by omega),by rw [show (Int.ofNat (2 * i + 1)).toNat = 2 * i + 1 from rfl,nth_ivs1 (by omega),gi_zl T (by omega)]⟩
def pfL (T:List Nat):Nat → List (Nat × Nat)
 | 0 => []
 |i + 1 => pfL T i ++ [(gn T (2 * i),gn T (2 * i + 1))]
theorem pfL_len (T:List Nat):∀ i,(pfL T i).length = i
 | 0 => rfl
 |i + 1 => by rw [pfL,List.length_append,pfL_len T i];rfl
theorem rnT0 {m:Nat} {rs:List Nat} {T:List Nat} {j c e:Nat} (hj:j < rs.length) (h1:rs.getD j 0 = c) (h2:e = m + j):RnV m rs (.lst [nv (gn T (2 * 0)),nv (gn T (2 * 0 + 1))] (0 + 1) (.ch c)) (.lst (flat (zp (pfL T 1))) (zp (pfL T 1)).length (.ch e)) :=RnV.ch hj h1 h2 (bdl_no (xs :=[nv (gn T (2 * 0)),nv (gn T (2 * 0 + 1))]) ⟨trivial,trivial,trivial⟩)
theorem rnT1 {m:Nat} {rs:List Nat} {T:List Nat} {i j c e:Nat} (hj:j < rs.length) (h1:rs.getD j 0 = c) (h2:e = m + j):RnV m rs (.lst (flat (zp (pfL T i)) ++ [nv (gn T (2 * i)),nv (gn T (2 * i + 1))]) ((zp (pfL T i)).length + (0 + 1)) (.ch c)) (.lst (flat (zp (pfL T (i + 1)))) (zp (pfL T (i + 1))).length (.ch e)) :=rnB (l :=pfL T i) (q :=(gn T (2 * i),gn T (2 * i + 1))) hj h1 h2
theorem chT (T:List Nat) (i:Nat):AObj.chain ((zp (pfL T i)).length + (0 + 1)) 2 105 = .chain (zp (pfL T (i + 1))).length 2 105 :=by
 rw [zp_len,zp_len,pfL,List.length_append];rfl
theorem ttrain_pf {T:List Nat} {k:Nat} (h:T.length = 2 * k) (h1:1 ≤ k) (h3:k ≤ 3):Pure prog 167 [nl (zl T)] (pv (zp (pfL T k))) :=by
 have lT :=ivs_no (zl T)
 have lv :=flat_no (zp (pfL T k))
 refine pure_sym hE rfl (by repeat' (first | exact trivial | assumption | exact flat_no _ | exact (fun _ h => nomatch h) | apply And.intro)) (by repeat' (first | exact trivial | assumption | exact flat_no _ | exact (fun _ h => nomatch h) | apply And.intro)) fun S q pc hS hq hC hE => ?_
 conv => whnf
 rw [show IntKind.i64.wrap ((((zl T).length:Nat):Int).tdiv 2) = Int.ofNat k by rw [zl_len,h];exact wrapQ h1 h3]
 conv => whnf
 refine sym_loopR hE hS (A :=Nat × AV × List AObj) [] (fun x hx => nomatch hx) [0,7] (fun (i,v,_) => [(3,v),(8,nv i)]) (fun _ => []) (fun a => a.2.2) (fun (i,v,ux) => i ≤ k ∧ (i = 0 ∧ v = .nils ∧ ux = [] ∨ 0 < i ∧ v = .lst (flat (zp (pfL T i))) (zp (pfL T i)).length (.ch 0) ∧ ux = [.chain (zp (pfL T i)).length 2 105])) (fun (i,_) => k - i) (0,.nils,[]) (Nat.le_of_ble_eq_true rfl) trivial rfl (by repeat' (first | exact trivial | exact Nat.zero_le _ | exact bdl_no lT | exact Nat.le_of_ble_eq_true rfl | exact bdl_no (by assumption) | exact bdl_no (flat_no _) | exact bdl_no (ivs_no _) | exact bdl_no (svs_no _) | exact Nat.max_le.2 ⟨Nat.le_of_ble_eq_true rfl,bdl_no (ivs_no _)⟩ | exact Nat.max_le.2 ⟨Nat.le_of_ble_eq_true rfl,bdl_no (svs_no _)⟩ | apply And.intro)) (by refine ⟨rfl,rfl,rfl,rfl,rfl,rfl,by decide,?_,?_,?_,by kernel_rfl,?_,?_⟩ <;> repeat' (first | exact trivial | exact rfl | exact ⟨_,rfl,RnV.wk (WkV.refl _) (Nat.zero_le _)⟩ | exact ⟨_,rfl,RnV.wk (WkV.refl _) (Nat.le_of_ble_eq_true rfl)⟩ | exact TrIw.refl _ _ _ _ _ | exact OWk.same _ | exact OWk.loop _ _ _ _ _ _ _ (by repeat' (first | exact trivial | exact WkV.refl _ | exact WkV.unk _ | apply And.intro)) | exact Nat.zero_le _ | exact bdl_no lT | exact ⟨_,rfl,RnV.wk (WkV.refl _) (bz (nl_no (zl T)))⟩ | exact Nat.le_of_ble_eq_true rfl | exact bdl_no (by assumption) | exact bdl_no (flat_no _) | exact bdl_no (ivs_no _) | exact bdl_no (svs_no _) | exact Nat.max_le.2 ⟨Nat.le_of_ble_eq_true rfl,bdl_no (ivs_no _)⟩ | exact Nat.max_le.2 ⟨Nat.le_of_ble_eq_true rfl,bdl_no (svs_no _)⟩ | apply And.intro)) ⟨Nat.zero_le _,.inl ⟨rfl,rfl,rfl⟩⟩ ?_
 rintro ⟨i,v,ux⟩ ⟨hi,⟨he,rfl,rfl⟩ | ⟨he,rfl,rfl⟩⟩ K hK
 ·obtain rfl:K = 0 :=hK
  have he:i = 0 :=he
  subst he
  conv => whnf
  have hi2:0 < k :=h1
  have hi1:IntKind.i64.wrap (Int.ofNat 0 + 1) = Int.ofNat (0 + 1) :=wrapN (m :=0 + 1) (by omega)
  have x :=ixT0 (T :=T) (i :=0) (by omega) (by omega)
  have y :=ixT1 (T :=T) (i :=0) (by omega) (by omega)
  refine bool_true (ltN_t hi2) ?_
  conv => whnf
  refine bool_true (x.1) ?_
  conv => whnf
  refine plan_as (nthP (x.2)) ?_
  conv => whnf
  refine bool_true (y.1) ?_
  conv => whnf
  refine plan_as (nthP (y.2)) ?_
  conv => whnf
  refine sym_drawn hS (by kernel_rfl) ?_
  conv => whnf
  exact ⟨(1,.lst (flat (zp (pfL T 1))) (zp (pfL T 1)).length (.ch 0),[.chain (zp (pfL T 1)).length 2 105]),[14],⟨h1,.inr ⟨Nat.one_pos,rfl,rfl⟩⟩,by show k - 1 < k - 0;omega,(by refine ⟨rfl,rfl,rfl,rfl,rfl,rfl,by decide,?_,?_,?_,by kernel_rfl,?_,?_⟩ <;> repeat' (first | exact trivial | exact rfl | exact ⟨_,rfl,RnV.wk (WkV.refl _) (Nat.zero_le _)⟩ | exact ⟨_,rfl,RnV.wk (WkV.refl _) (Nat.le_of_ble_eq_true rfl)⟩ | exact TrIw.refl _ _ _ _ _ | exact OWk.same _ | exact OWk.loop _ _ _ _ _ _ _ (by repeat' (first | exact trivial | exact WkV.refl _ | exact WkV.unk _ | apply And.intro)) | exact Nat.zero_le _ | exact bdl_no lT | exact ⟨_,rfl,RnV.wk (WkV.refl _) (bz (nl_no (zl T)))⟩ | exact ⟨_,rfl,RnV.wk (WkV.int hi1) (Nat.zero_le _)⟩ | exact ⟨_,rfl,rnT0 (j :=0) (by decide) rfl rfl⟩ | exact Nat.le_of_ble_eq_true rfl | exact bdl_no (by assumption) | exact bdl_no (flat_no _) | exact bdl_no (ivs_no _) | exact bdl_no (svs_no _) | exact Nat.max_le.2 ⟨Nat.le_of_ble_eq_true rfl,bdl_no (ivs_no _)⟩ | exact Nat.max_le.2 ⟨Nat.le_of_ble_eq_true rfl,bdl_no (svs_no _)⟩ | apply And.intro))⟩
 ·obtain rfl:K = 1 :=hK
  have hi:i ≤ k :=hi
  have he:0 < i :=he
  conv => whnf
  by_cases hi2:i < k
  ·have hi1:IntKind.i64.wrap (Int.ofNat i + 1) = Int.ofNat (i + 1) :=wrapN (m :=i + 1) (by omega)
   have x :=ixT0 (T :=T) (i :=i) (by omega) (by omega)
   have y :=ixT1 (T :=T) (i :=i) (by omega) (by omega)
   refine bool_true (ltN_t hi2) ?_
   conv => whnf
   refine bool_true (x.1) ?_
   conv => whnf
   refine plan_as (nthP (x.2)) ?_
   conv => whnf
   refine bool_true (y.1) ?_
   conv => whnf
   refine plan_as (nthP (y.2)) ?_
   conv => whnf
   have hl :=zp_len (pfL T i)
   have hl2 :=pfL_len T i
   refine bool_true (decide_eq_true (show ((zp (pfL T i)).length + (0 + 1)) * 16 ≤ 140737488355328 by omega)) ?_
   conv => whnf
   refine bool_true (decide_eq_true (show (zp (pfL T i)).length + (0 + 1) ≤ 9223372036854775807 by omega)) ?_
   conv => whnf
   refine bool_true (lenIs_flz (pfL T i)) ?_
   conv => whnf
   refine bool_true (decide_eq_true rfl) ?_
   conv => whnf
   refine sym_drawn hS (by kernel_rfl) ?_
   conv => whnf
   exact ⟨(i + 1,.lst (flat (zp (pfL T (i + 1)))) (zp (pfL T (i + 1))).length (.ch 0),[.chain (zp (pfL T (i + 1))).length 2 105]),[0],⟨hi2,.inr ⟨Nat.succ_pos _,rfl,rfl⟩⟩,by show k - (i + 1) < k - i;omega,(by refine ⟨rfl,rfl,rfl,rfl,rfl,rfl,by decide,?_,?_,?_,by kernel_rfl,?_,?_⟩ <;> repeat' (first | exact trivial | exact rfl | exact ⟨_,rfl,RnV.wk (WkV.refl _) (Nat.zero_le _)⟩ | exact ⟨_,rfl,RnV.wk (WkV.refl _) (Nat.le_of_ble_eq_true rfl)⟩ | exact TrIw.refl _ _ _ _ _ | exact OWk.same _ | exact OWk.loop _ _ _ _ _ _ _ (by repeat' (first | exact trivial | exact WkV.refl _ | exact WkV.unk _ | apply And.intro)) | exact Nat.zero_le _ | exact bdl_no lT | exact ⟨_,rfl,RnV.wk (WkV.refl _) (bz (nl_no (zl T)))⟩ | exact ⟨_,rfl,RnV.wk (WkV.int hi1) (Nat.zero_le _)⟩ | exact ⟨_,rfl,rnT1 (j :=0) (by decide) rfl rfl⟩ | exact chT T i | exact Nat.le_of_ble_eq_true rfl | exact bdl_no (by assumption) | exact bdl_no (flat_no _) | exact bdl_no (ivs_no _) | exact bdl_no (svs_no _) | exact Nat.max_le.2 ⟨Nat.le_of_ble_eq_true rfl,bdl_no (ivs_no _)⟩ | exact Nat.max_le.2 ⟨Nat.le_of_ble_eq_true rfl,bdl_no (svs_no _)⟩ | apply And.intro))⟩
  ·refine bool_false (ltN_f hi2) ?_
   conv => whnf
   have e:i = k :=by omega
   subst e
   exact ⟨_,rfl,wk_own rfl⟩
theorem ttrain_pure {t:List Nat} (h:tOk t):Pure prog 167 [nl (zl t)] (pv (zp (prL t))) :=by
 obtain ⟨a,b,rfl⟩ | ⟨a,b,c,d,rfl⟩ | ⟨a,b,c,d,e,f,rfl⟩ :=h.cases
 ·exact ttrain_pf (k :=1) rfl (by decide) (by decide)
 ·exact ttrain_pf (k :=2) rfl (by decide) (by decide)
 ·exact ttrain_pf (k :=3) rfl (by decide) (by decide)
theorem tturns_pure {t:List Nat} (h:tOk t):Pure prog 118 [nl (zl t)] (fv (Int.ofNat (rdT t).1) (Int.ofNat (rdT t).2)) :=by
 have lT :=ivs_no (zl t)
 have lP :=flat_no (zp (prL t))
 have p1 :=ttrain_pure h
 have p2 :=sTurns_pure h.tv
 refine pure_sym hE rfl (by repeat' (first | exact trivial | assumption | exact flat_no _ | exact (fun _ h => nomatch h) | apply And.intro)) (by repeat' (first | exact trivial | assumption | exact flat_no _ | exact (fun _ h => nomatch h) | apply And.intro)) fun S q pc hS hq hC hE => ?_
 conv => whnf
 refine sym_pure hC (p1) ?_
 conv => whnf
 refine sym_pure hC (p2) ?_
 conv => whnf
 exact ⟨_,rfl,Wk.refl _⟩
end
end Go.Abs.Seat
