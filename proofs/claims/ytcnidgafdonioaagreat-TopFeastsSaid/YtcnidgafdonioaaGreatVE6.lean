/-
  Feasts, and the years in which two of them meet.
-/
import Derived.Test.YtcnidgafdonioaaGreatVE5
/-! Feasts, and the years in which two of them meet. -/
namespace Go.Abs.Seat
noncomputable section
open Go Go.Abs Go.Proofs.Tryz
set_option maxRecDepth 100000
set_option maxHeartbeats 40000000
attribute [local irreducible] IntKind.wrap pEq
theorem ob8 {o o':Nat → AObj} (h0:o 0 = o' 0) (h1:o 1 = o' 1) (h2:o 2 = o' 2) (h3:o 3 = o' 3) (h4:o 4 = o' 4) (h5:o 5 = o' 5) (h6:o 6 = o' 6) (h7:o 7 = o' 7):∀ i,i < 8 → o i = o' i
 | 0,_ => h0
 | 1,_ => h1
 | 2,_ => h2
 | 3,_ => h3
 | 4,_ => h4
 | 5,_ => h5
 | 6,_ => h6
 | 7,_ => h7
theorem dFeasts_pure {E:Int} {C:List Int} (h:calOk E C) {n d a:Int} (hm:moonOk n d a) {l:List Ft} (hl:ftsOk l) (h1:1 ≤ l.length) (y:Nat) (hy:y ≤ 4000) :
  Pure prog 26 [.agg [iv E,nl C],mnV n d a,ftL l,nv y] (.tup [nl (dsL (ftD E C n d a y) l l.length),iv 0]) :=by
 have lC :=ivs_no C
 have ll :=fts_no l
 have lv :=ivs_no (dsL (ftD E C n d a y) l l.length)
 have pC :=isCalendar_pure h
 have pM :=isMoon_pure n d a
 rw [decide_eq_true hm] at pM
 have pF :=areFts_pure hl
 have pY :=isYear_pure (Int.ofNat y)
 rw [decide_eq_true (show 0 ≤ Int.ofNat y ∧ Int.ofNat y ≤ 4000 from ⟨by show (0:Int) ≤ (y:Int);omega,by show (y:Int) ≤ 4000;omega⟩)] at pY
 have hc:cyc C :=⟨h.2.1.2,fun i hi => (h.2.2 i hi).1.1⟩
 have hEp :=h.1
 have hw1:IntKind.i64.wrap (E + dlB (leapB C 0)) = fdY E C 1 :=fdY_wrap E C 0 hEp (by decide)
 refine pure_sym hE rfl (by repeat' (first | exact trivial | assumption | exact flat_no _ | exact (fun _ h => nomatch h) | apply And.intro)) (by repeat' (first | exact trivial | assumption | exact flat_no _ | exact (fun _ h => nomatch h) | apply And.intro)) fun S q pc hS hq hC hE => ?_
 conv => whnf
 refine sym_pure hC (pC) ?_
 conv => whnf
 refine sym_pure hC (pM) ?_
 conv => whnf
 refine sym_pure hC (pF) ?_
 conv => whnf
 refine sym_pure hC (pY) ?_
 conv => whnf
 refine sym_call hC ?_
 conv => whnf
 refine sym_inline hE hS ?_
 conv => whnf
 refine sym_unroll hE hS ?_
 conv => whnf
 refine sym_pure hC (op_unk (days_pure E hc 0)) ?_
 conv => whnf
 refine sym_loopG hE hS (A :=Nat × Int) [4,5] (fun (k,x) => [(6,iv (fdY E C k)),(14,iv x)]) (fun (k,x) => [(6,opC E C n d a (fdV E C k 7) (.map 5)),(7,.chain k 1 3)]) (fun _ => []) (fun (k,x) => x = Int.ofNat k ∧ k ≤ 4002) (fun (k,_) => 4002 - k) (1,1) (Nat.le_of_ble_eq_true rfl) rfl (by refine ⟨rfl,rfl,rfl,rfl,rfl,rfl,8,rfl,?_,?_⟩ <;> repeat' (first | exact trivial | exact rfl | exact ⟨_,rfl,WkV.refl _⟩ | exact ⟨_,rfl,WkV.own _ _ _⟩ | exact Nat.zero_le _ | exact ⟨_,rfl,WkV.int hw1⟩ | exact ⟨_,rfl,WkV.int (wrapI (by decide) (by decide))⟩ | exact Nat.le_of_ble_eq_true rfl | exact bdl_no (by assumption) | exact bdl_no (flat_no _) | exact bdl_no (ivs_no _) | exact bdl_no (svs_no _) | exact Nat.max_le.2 ⟨Nat.le_of_ble_eq_true rfl,bdl_no (ivs_no _)⟩ | exact Nat.max_le.2 ⟨Nat.le_of_ble_eq_true rfl,bdl_no (svs_no _)⟩ | apply And.intro)) ⟨rfl,by decide⟩ ?_
 rintro ⟨k,x⟩ ⟨hx,hk⟩ K hK
 obtain rfl:K = 8 :=hK
 conv => whnf
 by_cases hk2:k < 4002
 ·have h2 :=fdY_wrap E C k hEp hk
  rw [← hx] at h2
  have hx':x = (k:Int) :=hx
  have h3:IntKind.i64.wrap (x + 1) = x + 1 :=wrapI (by omega) (by omega)
  have h4:x + 1 = Int.ofNat (k + 1) :=by rw [hx];rfl
  refine bool_true (decide_eq_true (show x < 4002 by rw [hx];show (k:Int) < 4002;omega)) ?_
  conv => whnf
  refine bool_true (decide_eq_true (show (k + (0 + 1)) * 8 ≤ 140737488355328 by omega)) ?_
  conv => whnf
  refine bool_true (decide_eq_true (show k + (0 + 1) ≤ 9223372036854775807 by omega)) ?_
  conv => whnf
  refine bool_true (lenIs_fdL E C k) ?_
  conv => whnf
  refine bool_true (decide_eq_true rfl) ?_
  conv => whnf
  refine sym_pure hC (op_unk (days_pure E hc x)) ?_
  conv => whnf
  exact ⟨(k + 1,x + 1),⟨h4,hk2⟩,by show 4002 - (k + 1) < 4002 - k;omega,Nat.le_refl _,(by refine ⟨rfl,rfl,rfl,rfl,rfl,rfl,8,rfl,?_,?_⟩ <;> repeat' (first | exact trivial | exact rfl | exact ⟨_,rfl,WkV.refl _⟩ | exact ⟨_,rfl,WkV.own _ _ _⟩ | exact Nat.zero_le _ | exact ⟨_,rfl,WkV.int h2⟩ | exact ⟨_,rfl,WkV.int h3⟩ | exact opC_app E C n d a (.map 5) k 7 | exact Nat.le_of_ble_eq_true rfl | exact bdl_no (by assumption) | exact bdl_no (flat_no _) | exact bdl_no (ivs_no _) | exact bdl_no (svs_no _) | exact Nat.max_le.2 ⟨Nat.le_of_ble_eq_true rfl,bdl_no (ivs_no _)⟩ | exact Nat.max_le.2 ⟨Nat.le_of_ble_eq_true rfl,bdl_no (svs_no _)⟩ | apply And.intro))⟩
 refine bool_false (decide_eq_false (show ¬ x < 4002 by rw [hx];show ¬ (k:Int) < 4002;omega)) ?_
 conv => whnf
 have hk4:k = 4002 :=by omega
 refine .inl ?_
 conv => whnf
 refine sym_call hC ?_
 conv => whnf
 refine sym_hcall hS (feasts_h h hm hl h1 y hy hk4 rfl) (Nat.le_of_ble_eq_true rfl) [(5,.mapo (eaE (mvB l l.length) y (sunD n d a (fdY E C y + intoD (leapB C (Int.ofNat y)) 3 21))))] [5] rfl (by decide) (ob8 rfl rfl rfl rfl rfl rfl rfl rfl) (ob8 rfl rfl rfl rfl rfl rfl rfl rfl) ?_
 conv => whnf
 exact ⟨_,rfl,Wk.refl _⟩
theorem takeN_ivE1 (l:List Int) {i:Nat} (h:i ≤ l.length):takeN (i * t3.size) (ivs l) = some (ivs (l.take i)) :=by
 rw [show t3.size = 1 from rfl,Nat.mul_one]
 exact takeN_ivE l i h
theorem bd_ea (m:Nat) (b:Bool) (y:Nat) (s:Int):BdO m (.mapo (eaE b y s)) :=by
 cases b
 ·exact trivial
 ·exact ⟨Nat.zero_le _,Nat.zero_le _,trivial⟩
theorem gE_tt {x:Nat} {c:Bool} (h:c = true):@Bool.rec (fun _ => Bool) (@Bool.rec (fun _ => Bool) true false (x,true).snd) (x,true).snd c = true :=by subst h;rfl
theorem gE_tf {x:Nat} {c:Bool} (h:c = false):@Bool.rec (fun _ => Bool) (@Bool.rec (fun _ => Bool) true false (x,true).snd) (x,true).snd c = false :=by subst h;rfl
def twc (D:List Int) (i:Nat):Prop :=0 ≤ gi D i ∧ gi D i ∈ D.take i
instance (D:List Int) (i:Nat):Decidable (twc D i) :=inferInstanceAs (Decidable (_ ∧ _))
open Classical in
def mtL (D:List Int) (y:Nat):List Int :=if ∃ i,i < D.length ∧ twc D i then [Int.ofNat y] else []
section
attribute [local irreducible] pSlice
theorem dMeet_pure {E:Int} {C:List Int} (h:calOk E C) {n d a:Int} (hm:moonOk n d a) {l:List Ft} (hl:ftsOk l) (h1:1 ≤ l.length) (y:Nat) (hy:y ≤ 4000) :
  Pure prog 28 [.agg [iv E,nl C],mnV n d a,ftL l,nv y,nv y] (.tup [sv (mtL (dsL (ftD E C n d a y) l l.length) y),iv 0]) :=by
 have lC :=ivs_no C
 have ll :=fts_no l
 have hyf:decide (IntKind.i64.wrap (Int.ofNat y + 1) ≤ Int.ofNat y) = false :=by
  have e:IntKind.i64.wrap (Int.ofNat y + 1) = (y:Int) + 1 :=wrapN (m :=y + 1) (by omega)
  rw [e]
  exact decide_eq_false (show ¬ (y:Int) + 1 ≤ (y:Int) by omega)
 have hf :=fun {k:Nat} (hk:k = 4002) => feasts_h h hm hl h1 y hy hk rfl
 have hDl :=dsL_len (ftD E C n d a y) l l.length
 obtain ⟨D,hD⟩ : ∃ D,dsL (ftD E C n d a y) l l.length = D :=⟨_,rfl⟩
 rw [hD] at hf hDl ⊢
 have h6 :=hl.1
 have lv :=sv_no (mtL D y)
 have lD :=ivs_no D
 have pC :=isCalendar_pure h
 have pM :=isMoon_pure n d a
 rw [decide_eq_true hm] at pM
 have pF :=areFts_pure hl
 have pY :=isYear_pure (Int.ofNat y)
 rw [decide_eq_true (show 0 ≤ Int.ofNat y ∧ Int.ofNat y ≤ 4000 from ⟨by show (0:Int) ≤ (y:Int);omega,by show (y:Int) ≤ 4000;omega⟩)] at pY
 have pR:Pure prog 70 [nv y,nv y] (.bool true) :=by
  have p :=din_pure 0 0 400
  refine pure_sym hE rfl (by repeat' (first | exact trivial | assumption | exact flat_no _ | exact (fun _ h => nomatch h) | apply And.intro)) (by repeat' (first | exact trivial | assumption | exact flat_no _ | exact (fun _ h => nomatch h) | apply And.intro)) fun S q pc hS hq hC hE => ?_
  conv => whnf
  refine sym_pure hC (pY) ?_
  conv => whnf
  refine sym_pure hC (pY) ?_
  conv => whnf
  rw [Int.sub_self,show IntKind.i64.wrap 0 = 0 from wrapI (by decide) (by decide)]
  refine sym_pure hC (p) ?_
  conv => whnf
  exact ⟨_,rfl,Wk.refl _⟩
 have hc:cyc C :=⟨h.2.1.2,fun i hi => (h.2.2 i hi).1.1⟩
 have hEp :=h.1
 have hw1:IntKind.i64.wrap (E + dlB (leapB C 0)) = fdY E C 1 :=fdY_wrap E C 0 hEp (by decide)
 refine pure_sym hE rfl (by repeat' (first | exact trivial | assumption | exact flat_no _ | exact (fun _ h => nomatch h) | apply And.intro)) (by repeat' (first | exact trivial | assumption | exact flat_no _ | exact (fun _ h => nomatch h) | apply And.intro)) fun S q pc hS hq hC hE => ?_
 conv => whnf
 refine sym_pure hC (pC) ?_
 conv => whnf
 refine sym_pure hC (pM) ?_
 conv => whnf
 refine sym_pure hC (pF) ?_
 conv => whnf
 refine sym_pure hC (pR) ?_
 conv => whnf
 refine sym_call hC ?_
 conv => whnf
 refine sym_inline hE hS ?_
 conv => whnf
 refine sym_unroll hE hS ?_
 conv => whnf
 refine sym_pure hC (op_unk (days_pure E hc 0)) ?_
 conv => whnf
 refine sym_loopG hE hS (A :=Nat × Int) [4,5] (fun (k,x) => [(6,iv (fdY E C k)),(14,iv x)]) (fun (k,x) => [(6,opC E C n d a (fdV E C k 7) (.map 5)),(7,.chain k 1 3)]) (fun _ => []) (fun (k,x) => x = Int.ofNat k ∧ k ≤ 4002) (fun (k,_) => 4002 - k) (1,1) (Nat.le_of_ble_eq_true rfl) rfl (by refine ⟨rfl,rfl,rfl,rfl,rfl,rfl,8,rfl,?_,?_⟩ <;> repeat' (first | exact trivial | exact rfl | exact ⟨_,rfl,WkV.refl _⟩ | exact ⟨_,rfl,WkV.own _ _ _⟩ | exact Nat.zero_le _ | exact ⟨_,rfl,WkV.int hw1⟩ | exact ⟨_,rfl,WkV.int (wrapI (by decide) (by decide))⟩ | exact Nat.le_of_ble_eq_true rfl | exact bdl_no (by assumption) | exact bdl_no (flat_no _) | exact bdl_no (ivs_no _) | exact bdl_no (svs_no _) | exact Nat.max_le.2 ⟨Nat.le_of_ble_eq_true rfl,bdl_no (ivs_no _)⟩ | exact Nat.max_le.2 ⟨Nat.le_of_ble_eq_true rfl,bdl_no (svs_no _)⟩ | apply And.intro)) ⟨rfl,by decide⟩ ?_
 rintro ⟨k,x⟩ ⟨hx,hk⟩ K hK
 obtain rfl:K = 8 :=hK
 conv => whnf
 by_cases hk2:k < 4002
 ·have h2 :=fdY_wrap E C k hEp hk
  rw [← hx] at h2
  have hx':x = (k:Int) :=hx
  have h3:IntKind.i64.wrap (x + 1) = x + 1 :=wrapI (by omega) (by omega)
  have h4:x + 1 = Int.ofNat (k + 1) :=by rw [hx];rfl
  refine bool_true (decide_eq_true (show x < 4002 by rw [hx];show (k:Int) < 4002;omega)) ?_
  conv => whnf
  refine bool_true (decide_eq_true (show (k + (0 + 1)) * 8 ≤ 140737488355328 by omega)) ?_
  conv => whnf
  refine bool_true (decide_eq_true (show k + (0 + 1) ≤ 9223372036854775807 by omega)) ?_
  conv => whnf
  refine bool_true (lenIs_fdL E C k) ?_
  conv => whnf
  refine bool_true (decide_eq_true rfl) ?_
  conv => whnf
  refine sym_pure hC (op_unk (days_pure E hc x)) ?_
  conv => whnf
  exact ⟨(k + 1,x + 1),⟨h4,hk2⟩,by show 4002 - (k + 1) < 4002 - k;omega,Nat.le_refl _,(by refine ⟨rfl,rfl,rfl,rfl,rfl,rfl,8,rfl,?_,?_⟩ <;> repeat' (first | exact trivial | exact rfl | exact ⟨_,rfl,WkV.refl _⟩ | exact ⟨_,rfl,WkV.own _ _ _⟩ | exact Nat.zero_le _ | exact ⟨_,rfl,WkV.int h2⟩ | exact ⟨_,rfl,WkV.int h3⟩ | exact opC_app E C n d a (.map 5) k 7 | exact Nat.le_of_ble_eq_true rfl | exact bdl_no (by assumption) | exact bdl_no (flat_no _) | exact bdl_no (ivs_no _) | exact bdl_no (svs_no _) | exact Nat.max_le.2 ⟨Nat.le_of_ble_eq_true rfl,bdl_no (ivs_no _)⟩ | exact Nat.max_le.2 ⟨Nat.le_of_ble_eq_true rfl,bdl_no (svs_no _)⟩ | apply And.intro))⟩
 refine bool_false (decide_eq_false (show ¬ x < 4002 by rw [hx];show ¬ (k:Int) < 4002;omega)) ?_
 conv => whnf
 have hk4:k = 4002 :=by omega
 refine .inl ?_
 conv => whnf
 have lF :=ivs_no (fdL E C k)
 refine sym_unroll hE hS ?_
 conv => whnf
 refine bool_true (decide_eq_true (Int.le_refl (Int.ofNat y))) ?_
 conv => whnf
 refine sym_call hC ?_
 conv => whnf
 refine sym_hcall hS (hf hk4) (Nat.le_of_ble_eq_true rfl) [(5,.mapo (eaE (mvB l l.length) y (sunD n d a (fdY E C y + intoD (leapB C (Int.ofNat y)) 3 21))))] [5] rfl (by decide) (ob8 rfl rfl rfl rfl rfl rfl rfl rfl) (ob8 rfl rfl rfl rfl rfl rfl rfl rfl) ?_
 conv => whnf
 refine sym_loop hE hS (A :=Nat) [3,4,13,14,15,16,52] (fun i => [(53,nv i)]) (fun _ => []) (fun i => i ≤ D.length ∧ ∀ j,j < i → ¬ twc D j) (fun i => D.length - i) 0 rfl rfl (by refine ⟨rfl,rfl,rfl,rfl,?_,?_⟩ <;> repeat' (first | exact trivial | exact rfl | exact Nat.zero_le _ | exact bd_ea _ _ _ _ | exact bdl_no lC | exact bdl_no ll | exact bdl_no lD | exact bdl_no lF | exact Nat.max_le.2 ⟨bdl_no lF,Nat.le_of_ble_eq_true rfl⟩ | exact Nat.max_le.2 ⟨Nat.le_of_ble_eq_true rfl,bdl_no lF⟩ | exact Nat.le_of_ble_eq_true rfl | exact bdl_no (by assumption) | exact bdl_no (flat_no _) | exact bdl_no (ivs_no _) | exact Nat.max_le.2 ⟨Nat.le_of_ble_eq_true rfl,bdl_no (ivs_no _)⟩ | apply And.intro)) ⟨Nat.zero_le _,fun j hj => absurd hj (Nat.not_lt_zero _)⟩ ?_
 intro i ⟨hi,hj⟩
 conv => whnf
 by_cases h2:i < D.length
 ·refine bool_true (ltN_t h2) ?_
  conv => whnf
  have tl:(D.take i).length = i :=by rw [List.length_take];omega
  have pCt :=contains_pure (v :=nl (D.take i)) (l :=D.take i) (.inr rfl) (by omega) (gi D i)
  rw [nl,tl] at pCt
  have hi1:IntKind.i64.wrap (Int.ofNat i + 1) = Int.ofNat (i + 1) :=wrapN (m :=i + 1) (by omega)
  refine sym_call hC ?_
  conv => whnf
  refine sym_inline hE hS ?_
  conv => whnf
  refine bool_true (inR_t (i :=i) (n :=D.length) h2) ?_
  conv => whnf
  refine plan_as (nthP (nth_ivs1 (l :=D) (i :=i) h2)) ?_
  conv => whnf
  by_cases h0:0 ≤ gi D i
  ·have e0:decide (gi D i ≥ 0) = true :=decide_eq_true h0
   by_cases h3:gi D i ∈ D.take i
   ·rw [decide_eq_true h3] at pCt
    have ev:mtL D y = [Int.ofNat y] :=if_pos ⟨i,h2,h0,h3⟩
    repeat ((first
     |refine plan_as (nthP (nth_ivs1 h2)) ?_
     |refine plan_as (slice_to (e :=3) (inf :=t3) (h :=i) (ys :=ivs (D.take i)) (by kernel_rfl) (by kernel_rfl) rfl (by omega) (takeN_ivE1 D (by omega))) ?_
     |refine ko_rT (gE_tt e0) ?_
     |refine ko_sF (gE_tt e0) ?_
     |refine plan_as (pick_t (gE_tt e0)) ?_
     |refine bool_true (gE_tt e0) ?_
     |refine ko_sT (gE_tt e0) ?_
     |refine ko_rF (gE_tt e0) ?_
     |refine plan_as (pick_f (gE_tt e0)) ?_
     |refine bool_false (gE_tt e0) ?_
     |refine ko_rT e0 ?_
     |refine ko_sF e0 ?_
     |refine plan_as (pick_t e0) ?_
     |refine bool_true e0 ?_
     |refine ko_rT (inR_t h2) ?_
     |refine ko_sF (inR_t h2) ?_
     |refine plan_as (pick_t (inR_t h2)) ?_
     |refine bool_true (inR_t h2) ?_
     |refine sym_pure hC (pCt) ?_
     |refine sym_drawn hS (by kernel_rfl) ?_);conv => whnf)
    refine sym_unroll hE hS ?_
    conv => whnf
    refine bool_false (hyf) ?_
    conv => whnf
    rw [ev]
    exact ⟨_,rfl,wk_tup (wk_own (xs :=[nv y]) (n :=1) rfl)⟩
   ·rw [decide_eq_false h3] at pCt
    repeat ((first
     |refine plan_as (nthP (nth_ivs1 h2)) ?_
     |refine plan_as (slice_to (e :=3) (inf :=t3) (h :=i) (ys :=ivs (D.take i)) (by kernel_rfl) (by kernel_rfl) rfl (by omega) (takeN_ivE1 D (by omega))) ?_
     |refine ko_rT (gE_tt e0) ?_
     |refine ko_sF (gE_tt e0) ?_
     |refine plan_as (pick_t (gE_tt e0)) ?_
     |refine bool_true (gE_tt e0) ?_
     |refine ko_sT (gE_tt e0) ?_
     |refine ko_rF (gE_tt e0) ?_
     |refine plan_as (pick_f (gE_tt e0)) ?_
     |refine bool_false (gE_tt e0) ?_
     |refine ko_rT e0 ?_
     |refine ko_sF e0 ?_
     |refine plan_as (pick_t e0) ?_
     |refine bool_true e0 ?_
     |refine ko_rT (inR_t h2) ?_
     |refine ko_sF (inR_t h2) ?_
     |refine plan_as (pick_t (inR_t h2)) ?_
     |refine bool_true (inR_t h2) ?_
     |refine sym_pure hC (pCt) ?_
     |refine sym_drawn hS (by kernel_rfl) ?_);conv => whnf)
    exact ⟨i + 1,⟨h2,upto hj fun z => h3 z.2⟩,by omega,(by refine ⟨rfl,rfl,rfl,rfl,?_,?_⟩ <;> repeat' (first | exact trivial | exact rfl | exact Nat.zero_le _ | exact bd_ea _ _ _ _ | exact congrArg (fun z => some (AV.int .i64 z)) hi1 | exact bdl_no lC | exact bdl_no ll | exact bdl_no lD | exact bdl_no lF | exact Nat.max_le.2 ⟨bdl_no lF,Nat.le_of_ble_eq_true rfl⟩ | exact Nat.max_le.2 ⟨Nat.le_of_ble_eq_true rfl,bdl_no lF⟩ | exact Nat.le_of_ble_eq_true rfl | exact bdl_no (by assumption) | exact bdl_no (flat_no _) | exact bdl_no (ivs_no _) | exact Nat.max_le.2 ⟨Nat.le_of_ble_eq_true rfl,bdl_no (ivs_no _)⟩ | apply And.intro))⟩
  ·have e0:decide (gi D i ≥ 0) = false :=decide_eq_false h0
   repeat ((first
    |refine ko_rT (gE_tf e0) ?_
    |refine ko_sF (gE_tf e0) ?_
    |refine plan_as (pick_t (gE_tf e0)) ?_
    |refine bool_true (gE_tf e0) ?_
    |refine ko_sT (gE_tf e0) ?_
    |refine ko_rF (gE_tf e0) ?_
    |refine plan_as (pick_f (gE_tf e0)) ?_
    |refine bool_false (gE_tf e0) ?_
    |refine ko_sT e0 ?_
    |refine ko_rF e0 ?_
    |refine plan_as (pick_f e0) ?_
    |refine bool_false e0 ?_
    |refine sym_drawn hS (by kernel_rfl) ?_);conv => whnf)
   exact ⟨i + 1,⟨h2,upto hj fun z => h0 z.1⟩,by omega,(by refine ⟨rfl,rfl,rfl,rfl,?_,?_⟩ <;> repeat' (first | exact trivial | exact rfl | exact Nat.zero_le _ | exact bd_ea _ _ _ _ | exact congrArg (fun z => some (AV.int .i64 z)) hi1 | exact bdl_no lC | exact bdl_no ll | exact bdl_no lD | exact bdl_no lF | exact Nat.max_le.2 ⟨bdl_no lF,Nat.le_of_ble_eq_true rfl⟩ | exact Nat.max_le.2 ⟨Nat.le_of_ble_eq_true rfl,bdl_no lF⟩ | exact Nat.le_of_ble_eq_true rfl | exact bdl_no (by assumption) | exact bdl_no (flat_no _) | exact bdl_no (ivs_no _) | exact Nat.max_le.2 ⟨Nat.le_of_ble_eq_true rfl,bdl_no (ivs_no _)⟩ | apply And.intro))⟩
 ·have ev:mtL D y = [] :=if_neg fun ⟨j,k1,k2⟩ => hj j (by omega) k2
  refine bool_false (ltN_f h2) ?_
  conv => whnf
  refine sym_unroll hE hS ?_
  conv => whnf
  refine bool_false (hyf) ?_
  conv => whnf
  rw [ev]
  exact ⟨_,rfl,Wk.refl _⟩
end
end
end Go.Abs.Seat

