/-
  The notes that wheels break.
-/
import Derived.Test.YtcnidgafdonioaaGreatVU12
import Derived.Test.YtcnidgafdonioaaGreatVU10
namespace Go.Abs.Seat
noncomputable section
open Go Go.Abs Go.Proofs.Tryz
set_option maxRecDepth 100000
set_option maxHeartbeats 40000000
attribute [local irreducible] IntKind.wrap pEq
def smP (T:List Nat) (i:Nat):Nat :=gn T (2 * i) + gn T (2 * i + 1)
theorem tsum_pure {T:List Nat} {i n:Nat} (h:2 * i + 1 < T.length) (h6:T.length ≤ 6) (h60:∀ j,j < T.length → gn T j ≤ 60):Pure prog 113 [nl (zl T),nt1 i n] (.bool (decide (smP T i = n))) :=by
 have lT :=ivs_no (zl T)
 have hz :=zl_len T
 have g0:nth (ivs (zl T)) (2 * i * 1) = some (nv (gn T (2 * i))) :=by rw [nth_ivs1 (by omega),gi_zl T (by omega)]
 have g1:nth (ivs (zl T)) ((2 * i + 1) * 1) = some (nv (gn T (2 * i + 1))) :=by rw [nth_ivs1 (by omega),gi_zl T (by omega)]
 have k0 :=h60 (2 * i) (by omega)
 have k1 :=h60 (2 * i + 1) (by omega)
 have w0:IntKind.i64.wrap (2 * Int.ofNat i) = Int.ofNat (2 * i) :=wrapN (m :=2 * i) (by omega)
 have w1:IntKind.i64.wrap (Int.ofNat (2 * i) + 1) = Int.ofNat (2 * i + 1) :=wrapN (m :=2 * i + 1) (by omega)
 have w2:IntKind.i64.wrap (Int.ofNat (gn T (2 * i)) + Int.ofNat (gn T (2 * i + 1))) = Int.ofNat (smP T i) :=wrapN (m :=gn T (2 * i) + gn T (2 * i + 1)) (by omega)
 have p :=gin_pure (Int.ofNat (smP T i)) (Int.ofNat n) (Int.ofNat n)
 have e:decide (Int.ofNat n ≤ Int.ofNat (smP T i) ∧ Int.ofNat (smP T i) ≤ Int.ofNat n) = decide (smP T i = n) :=decide_eq_decide.2 ⟨fun z => by have h1:(n:Int) ≤ (smP T i:Nat) :=z.1;have h2:((smP T i:Nat):Int) ≤ n :=z.2;omega,fun z => by rw [z];exact ⟨Int.le_refl _,Int.le_refl _⟩⟩
 rw [e] at p
 have r0:inR (IntKind.i64.wrap (2 * Int.ofNat i)) (zl T).length = true :=by rw [w0];exact inR_t (by omega)
 have r1:inR (IntKind.i64.wrap (IntKind.i64.wrap (2 * Int.ofNat i) + 1)) (zl T).length = true :=by rw [w0,w1];exact inR_t (by omega)
 have g0:nth (ivs (zl T)) ((IntKind.i64.wrap (2 * Int.ofNat i)).toNat * 1) = some (nv (gn T (2 * i))) :=by rw [w0];exact g0
 have g1:nth (ivs (zl T)) ((IntKind.i64.wrap (IntKind.i64.wrap (2 * Int.ofNat i) + 1)).toNat * 1) = some (nv (gn T (2 * i + 1))) :=by rw [w0,w1];exact g1
 rw [← w2] at p
 refine pure_sym hE rfl (by repeat' (first | exact trivial | assumption | exact flat_no _ | exact (fun _ h => nomatch h) | apply And.intro)) (by repeat' (first | exact trivial | assumption | exact flat_no _ | exact (fun _ h => nomatch h) | apply And.intro)) fun S q pc hS hq hC hE => ?_
 conv => whnf
 refine bool_true (r0) ?_
 conv => whnf
 refine plan_as (nthP (g0)) ?_
 conv => whnf
 refine bool_true (r1) ?_
 conv => whnf
 refine plan_as (nthP (g1)) ?_
 conv => whnf
 refine sym_pure hC (p) ?_
 conv => whnf
 refine sym_drawn hS (by kernel_rfl) ?_
 conv => whnf
 exact ⟨_,rfl,Wk.refl _⟩
def bkL (T nt:List Nat):Nat → List Nat
 | 0 => []
 |i + 1 => bkL T nt i ++ if smP T i = gn nt i then [] else [i]
theorem bkL_len (T nt:List Nat):∀ i,(bkL T nt i).length ≤ i
 | 0 => Nat.le_refl 0
 |i + 1 => by
  have :=bkL_len T nt i
  rw [bkL,List.length_append]
  split
  ·simp only [List.length_nil];omega
  ·simp only [List.length_cons,List.length_nil];omega
theorem bkL_nil (T nt:List Nat):∀ i,bkL T nt i = [] ↔ ∀ j,j < i → smP T j = gn nt j
 | 0 => ⟨fun _ _ h => absurd h (Nat.not_lt_zero _),fun _ => rfl⟩
 |i + 1 => by
  rw [bkL,List.append_eq_nil_iff,bkL_nil T nt i]
  constructor
  ·rintro ⟨h1,h2⟩ j hj
   by_cases e:j = i
   ·subst e
    by_cases c:smP T j = gn nt j
    ·exact c
    ·rw [if_neg c] at h2;exact absurd h2 (by simp)
   ·exact h1 j (by omega)
  ·exact fun h => ⟨fun j hj => h j (by omega),if_pos (h i (by omega))⟩
theorem bd_fn {g:Nat} {l:List Int} {k n:Nat}:bd (.func (.func g) [.lst (ivs l) k .no] []) ≤ n :=Nat.max_le.2 ⟨Nat.max_le.2 ⟨bdl_no (ivs_no l),Nat.zero_le _⟩,Nat.zero_le _⟩
theorem ntA_no (l:List Nat):Live noL (ntA l) :=⟨ntE_no 0 l,fun _ h => nomatch h⟩
theorem breaks_pure {T nt:List Nat} {sp:List (Nat × Nat)} (hl:T.length = 2 * nt.length) (h3:nt.length ≤ 3) (h60:∀ j,j < T.length → gn T j ≤ 60) :
  Pure prog 53 [nl (zl T),fdA sp nt] (sv (zl (bkL T nt nt.length))) :=by
 have h6:T.length ≤ 6 :=by omega
 have lT :=ivs_no (zl T)
 have lS :=flat_no (zp sp)
 have lN :=ntE_no 0 nt
 have lv :=sv_no (zl (bkL T nt nt.length))
 have hz :=zl_len T
 refine pure_sym hE rfl (by repeat' (first | exact trivial | assumption | exact flat_no _ | exact (fun _ h => nomatch h) | apply And.intro)) (by repeat' (first | exact trivial | assumption | exact flat_no _ | exact (fun _ h => nomatch h) | apply And.intro)) fun S q pc hS hq hC hE => ?_
 conv => whnf
 refine sym_loopR hE hS (A :=Nat × AV × List AObj) [] (fun x hx => nomatch hx) [0,3,5,21,22] (fun (i,v,_) => [(6,v),(23,nv i)]) (fun _ => []) (fun a => a.2.2) (fun (i,v,ux) => i ≤ nt.length ∧ (bkL T nt i = [] ∧ v = .nils ∧ ux = [] ∨ bkL T nt i ≠ [] ∧ v = .lst (ivs (zl (bkL T nt i))) (bkL T nt i).length (.ch 2) ∧ ux = [.chain (bkL T nt i).length 1 3])) (fun (i,_) => nt.length - i) (0,.nils,[]) (Nat.le_of_ble_eq_true rfl) trivial rfl (by repeat' (first | exact trivial | exact Nat.zero_le _ | exact bdl_no lT | exact bdl_no lS | exact bdl_no lN | exact bd_fn | exact Nat.le_of_ble_eq_true rfl | exact bdl_no (by assumption) | exact bdl_no (flat_no _) | exact bdl_no (ivs_no _) | exact bdl_no (svs_no _) | exact Nat.max_le.2 ⟨Nat.le_of_ble_eq_true rfl,bdl_no (ivs_no _)⟩ | exact Nat.max_le.2 ⟨Nat.le_of_ble_eq_true rfl,bdl_no (svs_no _)⟩ | apply And.intro)) (by refine ⟨rfl,rfl,rfl,rfl,rfl,rfl,by decide,?_,?_,?_,by kernel_rfl,?_,?_⟩ <;> repeat' (first | exact trivial | exact rfl | exact ⟨_,rfl,RnV.wk (WkV.refl _) (Nat.zero_le _)⟩ | exact ⟨_,rfl,RnV.wk (WkV.refl _) (Nat.le_of_ble_eq_true rfl)⟩ | exact TrIw.refl _ _ _ _ _ | exact OWk.same _ | exact OWk.loop _ _ _ _ _ _ _ (by repeat' (first | exact trivial | exact WkV.refl _ | exact WkV.unk _ | apply And.intro)) | exact Nat.zero_le _ | exact bdl_no lT | exact bdl_no lS | exact bdl_no lN | exact bd_fn | exact ⟨_,rfl,RnV.wk (WkV.refl _) (bz (nl_no (zl T)))⟩ | exact ⟨_,rfl,RnV.wk (WkV.refl _) (bz (ntA_no nt))⟩ | exact Nat.le_of_ble_eq_true rfl | exact bdl_no (by assumption) | exact bdl_no (flat_no _) | exact bdl_no (ivs_no _) | exact bdl_no (svs_no _) | exact Nat.max_le.2 ⟨Nat.le_of_ble_eq_true rfl,bdl_no (ivs_no _)⟩ | exact Nat.max_le.2 ⟨Nat.le_of_ble_eq_true rfl,bdl_no (svs_no _)⟩ | apply And.intro)) ⟨Nat.zero_le _,.inl ⟨rfl,rfl,rfl⟩⟩ ?_
 rintro ⟨i,v,ux⟩ ⟨hi,⟨he,rfl,rfl⟩ | ⟨he,rfl,rfl⟩⟩ K hK
 ·obtain rfl:K = 2 :=hK
  have hi:i ≤ nt.length :=hi
  conv => whnf
  by_cases hi2:i < nt.length
  ·have hiz:2 * i + 1 < T.length :=by omega
   have hi1:IntKind.i64.wrap (Int.ofNat i + 1) = Int.ofNat (i + 1) :=wrapN (m :=i + 1) (by omega)
   have pS:Pure prog 113 [nl (zl T),nt1 (0 + i) (gn nt i)] (.bool (decide (smP T i = gn nt i))) :=by rw [Nat.zero_add];exact tsum_pure hiz h6 h60
   refine bool_true (ltN_t hi2) ?_
   conv => whnf
   refine bool_true (inR_t hi2) ?_
   conv => whnf
   refine plan_as (takP (tak_nt nt 0 hi2)) ?_
   conv => whnf
   rw [show IntKind.i64.wrap (2 - 1) = 1 from wrapI (by decide) (by decide)]
   conv => whnf
   refine sym_pure hC (pS) ?_
   conv => whnf
   refine sym_drawn hS (by kernel_rfl) ?_
   conv => whnf
   by_cases hs:smP T i = gn nt i
   ·have e1:bkL T nt (i + 1) = [] :=by rw [bkL,if_pos hs,he];rfl
    refine bool_false (nt_t (decide_eq_true hs)) ?_
    conv => whnf
    exact ⟨(i + 1,.nils,[]),[],⟨hi2,.inl ⟨e1,rfl,rfl⟩⟩,by show nt.length - (i + 1) < nt.length - i;omega,(by refine ⟨rfl,rfl,rfl,rfl,rfl,rfl,by decide,?_,?_,?_,by kernel_rfl,?_,?_⟩ <;> repeat' (first | exact trivial | exact rfl | exact ⟨_,rfl,RnV.wk (WkV.refl _) (Nat.zero_le _)⟩ | exact ⟨_,rfl,RnV.wk (WkV.refl _) (Nat.le_of_ble_eq_true rfl)⟩ | exact TrIw.refl _ _ _ _ _ | exact OWk.same _ | exact OWk.loop _ _ _ _ _ _ _ (by repeat' (first | exact trivial | exact WkV.refl _ | exact WkV.unk _ | apply And.intro)) | exact Nat.zero_le _ | exact bdl_no lT | exact bdl_no lS | exact bdl_no lN | exact bd_fn | exact ⟨_,rfl,RnV.wk (WkV.refl _) (bz (nl_no (zl T)))⟩ | exact ⟨_,rfl,RnV.wk (WkV.refl _) (bz (ntA_no nt))⟩ | exact ⟨_,rfl,RnV.wk (WkV.int hi1) (Nat.zero_le _)⟩ | exact Nat.le_of_ble_eq_true rfl | exact bdl_no (by assumption) | exact bdl_no (flat_no _) | exact bdl_no (ivs_no _) | exact bdl_no (svs_no _) | exact Nat.max_le.2 ⟨Nat.le_of_ble_eq_true rfl,bdl_no (ivs_no _)⟩ | exact Nat.max_le.2 ⟨Nat.le_of_ble_eq_true rfl,bdl_no (svs_no _)⟩ | apply And.intro))⟩
   ·have e1:bkL T nt (i + 1) = [i] :=by rw [bkL,if_neg hs,he];rfl
    refine bool_true (nt_f (decide_eq_false hs)) ?_
    conv => whnf
    exact ⟨(i + 1,.lst [nv i] 1 (.ch 2),[.chain 1 1 3]),[11],⟨hi2,.inr ⟨by rw [e1];simp,by rw [e1];rfl,by rw [e1];rfl⟩⟩,by show nt.length - (i + 1) < nt.length - i;omega,(by refine ⟨rfl,rfl,rfl,rfl,rfl,rfl,by decide,?_,?_,?_,by kernel_rfl,?_,?_⟩ <;> repeat' (first | exact trivial | exact rfl | exact ⟨_,rfl,RnV.wk (WkV.refl _) (Nat.zero_le _)⟩ | exact ⟨_,rfl,RnV.wk (WkV.refl _) (Nat.le_of_ble_eq_true rfl)⟩ | exact TrIw.refl _ _ _ _ _ | exact OWk.same _ | exact OWk.loop _ _ _ _ _ _ _ (by repeat' (first | exact trivial | exact WkV.refl _ | exact WkV.unk _ | apply And.intro)) | exact Nat.zero_le _ | exact bdl_no lT | exact bdl_no lS | exact bdl_no lN | exact bd_fn | exact ⟨_,rfl,RnV.wk (WkV.refl _) (bz (nl_no (zl T)))⟩ | exact ⟨_,rfl,RnV.wk (WkV.refl _) (bz (ntA_no nt))⟩ | exact ⟨_,rfl,RnV.wk (WkV.int hi1) (Nat.zero_le _)⟩ | exact ⟨_,rfl,rnC (j :=0) (by decide) rfl rfl ⟨trivial,trivial⟩⟩ | exact Nat.le_of_ble_eq_true rfl | exact bdl_no (by assumption) | exact bdl_no (flat_no _) | exact bdl_no (ivs_no _) | exact bdl_no (svs_no _) | exact Nat.max_le.2 ⟨Nat.le_of_ble_eq_true rfl,bdl_no (ivs_no _)⟩ | exact Nat.max_le.2 ⟨Nat.le_of_ble_eq_true rfl,bdl_no (svs_no _)⟩ | apply And.intro))⟩
  ·refine bool_false (ltN_f hi2) ?_
   conv => whnf
   have e:i = nt.length :=by omega
   rw [← e,he]
   exact ⟨_,rfl,Wk.refl _⟩
 ·obtain rfl:K = 3 :=hK
  have hi:i ≤ nt.length :=hi
  conv => whnf
  by_cases hi2:i < nt.length
  ·have hiz:2 * i + 1 < T.length :=by omega
   have hi1:IntKind.i64.wrap (Int.ofNat i + 1) = Int.ofNat (i + 1) :=wrapN (m :=i + 1) (by omega)
   have pS:Pure prog 113 [nl (zl T),nt1 (0 + i) (gn nt i)] (.bool (decide (smP T i = gn nt i))) :=by rw [Nat.zero_add];exact tsum_pure hiz h6 h60
   refine bool_true (ltN_t hi2) ?_
   conv => whnf
   refine bool_true (inR_t hi2) ?_
   conv => whnf
   refine plan_as (takP (tak_nt nt 0 hi2)) ?_
   conv => whnf
   rw [show IntKind.i64.wrap (2 - 1) = 1 from wrapI (by decide) (by decide)]
   conv => whnf
   refine sym_pure hC (pS) ?_
   conv => whnf
   refine sym_drawn hS (by kernel_rfl) ?_
   conv => whnf
   have hsl :=bkL_len T nt i
   by_cases hs:smP T i = gn nt i
   ·have e1:bkL T nt (i + 1) = bkL T nt i :=by rw [bkL,if_pos hs,List.append_nil]
    refine bool_false (nt_t (decide_eq_true hs)) ?_
    conv => whnf
    exact ⟨(i + 1,.lst (ivs (zl (bkL T nt i))) (bkL T nt i).length (.ch 2),[.chain (bkL T nt i).length 1 3]),[2],⟨hi2,.inr ⟨by rw [e1];exact he,by rw [e1],by rw [e1]⟩⟩,by show nt.length - (i + 1) < nt.length - i;omega,(by refine ⟨rfl,rfl,rfl,rfl,rfl,rfl,by decide,?_,?_,?_,by kernel_rfl,?_,?_⟩ <;> repeat' (first | exact trivial | exact rfl | exact ⟨_,rfl,RnV.wk (WkV.refl _) (Nat.zero_le _)⟩ | exact ⟨_,rfl,RnV.wk (WkV.refl _) (Nat.le_of_ble_eq_true rfl)⟩ | exact TrIw.refl _ _ _ _ _ | exact OWk.same _ | exact OWk.loop _ _ _ _ _ _ _ (by repeat' (first | exact trivial | exact WkV.refl _ | exact WkV.unk _ | apply And.intro)) | exact Nat.zero_le _ | exact bdl_no lT | exact bdl_no lS | exact bdl_no lN | exact bd_fn | exact ⟨_,rfl,RnV.wk (WkV.refl _) (bz (nl_no (zl T)))⟩ | exact ⟨_,rfl,RnV.wk (WkV.refl _) (bz (ntA_no nt))⟩ | exact ⟨_,rfl,RnV.wk (WkV.int hi1) (Nat.zero_le _)⟩ | exact ⟨_,rfl,rnC (j :=0) (by decide) rfl rfl (ivs_no _)⟩ | exact Nat.le_of_ble_eq_true rfl | exact bdl_no (by assumption) | exact bdl_no (flat_no _) | exact bdl_no (ivs_no _) | exact bdl_no (svs_no _) | exact Nat.max_le.2 ⟨Nat.le_of_ble_eq_true rfl,bdl_no (ivs_no _)⟩ | exact Nat.max_le.2 ⟨Nat.le_of_ble_eq_true rfl,bdl_no (svs_no _)⟩ | apply And.intro))⟩
   ·have e1:bkL T nt (i + 1) = bkL T nt i ++ [i] :=by rw [bkL,if_neg hs]
    refine bool_true (nt_f (decide_eq_false hs)) ?_
    conv => whnf
    refine bool_true (decide_eq_true (show ((bkL T nt i).length + (0 + 1)) * 8 ≤ 140737488355328 by omega)) ?_
    conv => whnf
    refine bool_true (decide_eq_true (show (bkL T nt i).length + (0 + 1) ≤ 9223372036854775807 by omega)) ?_
    conv => whnf
    refine bool_true (lenIs_zl (bkL T nt i)) ?_
    conv => whnf
    refine bool_true (decide_eq_true rfl) ?_
    conv => whnf
    exact ⟨(i + 1,.lst (ivs (zl (bkL T nt i ++ [i]))) (bkL T nt i ++ [i]).length (.ch 2),[.chain (bkL T nt i ++ [i]).length 1 3]),[2],⟨hi2,.inr ⟨by rw [e1];simp,by rw [e1],by rw [e1]⟩⟩,by show nt.length - (i + 1) < nt.length - i;omega,(by refine ⟨rfl,rfl,rfl,rfl,rfl,rfl,by decide,?_,?_,?_,by kernel_rfl,?_,?_⟩ <;> repeat' (first | exact trivial | exact rfl | exact ⟨_,rfl,RnV.wk (WkV.refl _) (Nat.zero_le _)⟩ | exact ⟨_,rfl,RnV.wk (WkV.refl _) (Nat.le_of_ble_eq_true rfl)⟩ | exact TrIw.refl _ _ _ _ _ | exact OWk.same _ | exact OWk.loop _ _ _ _ _ _ _ (by repeat' (first | exact trivial | exact WkV.refl _ | exact WkV.unk _ | apply And.intro)) | exact Nat.zero_le _ | exact bdl_no lT | exact bdl_no lS | exact bdl_no lN | exact bd_fn | exact ⟨_,rfl,RnV.wk (WkV.refl _) (bz (nl_no (zl T)))⟩ | exact ⟨_,rfl,RnV.wk (WkV.refl _) (bz (ntA_no nt))⟩ | exact ⟨_,rfl,RnV.wk (WkV.int hi1) (Nat.zero_le _)⟩ | exact ⟨_,rfl,rnI (j :=0) (by decide) rfl rfl⟩ | exact app_ch _ _ | exact Nat.le_of_ble_eq_true rfl | exact bdl_no (by assumption) | exact bdl_no (flat_no _) | exact bdl_no (ivs_no _) | exact bdl_no (svs_no _) | exact Nat.max_le.2 ⟨Nat.le_of_ble_eq_true rfl,bdl_no (ivs_no _)⟩ | exact Nat.max_le.2 ⟨Nat.le_of_ble_eq_true rfl,bdl_no (svs_no _)⟩ | apply And.intro))⟩
  ·refine bool_false (ltN_f hi2) ?_
   conv => whnf
   have e:i = nt.length :=by omega
   rw [← e,sv_zl he]
   exact ⟨_,rfl,wk_zl _ 2⟩
end
end Go.Abs.Seat
