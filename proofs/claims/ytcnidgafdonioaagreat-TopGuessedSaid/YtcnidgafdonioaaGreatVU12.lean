/-
  Finds as defined.
-/
import Derived.Test.YtcnidgafdonioaaGreatVU11
import Derived.Test.YtcnidgafdonioaaGreatVT51
import Derived.Test.YtcnidgafdonioaaGreatVT55
/-! Finds as defined. -/
namespace Go.Abs.Seat
noncomputable section
open Go Go.Abs Go.Proofs.Tryz
set_option maxRecDepth 100000
set_option maxHeartbeats 40000000
theorem wrapK {k:Nat} (h1:1 ≤ k) (h3:k ≤ 3):IntKind.i64.wrap (IntKind.i64.wrap ((Int.ofNat (2 * k)).tdiv 2) - 1) = Int.ofNat k - 1 :=by
 obtain rfl | rfl | rfl:k = 1 ∨ k = 2 ∨ k = 3 :=by omega
 all_goals decide
attribute [local irreducible] IntKind.wrap pEq
theorem gin_pure (x a b:Int):Pure prog 105 [iv x,iv a,iv b] (.bool (decide (a ≤ x ∧ x ≤ b))) :=by
 refine pure_sym hE rfl (by repeat' (first | exact trivial | assumption | exact flat_no _ | exact (fun _ h => nomatch h) | apply And.intro)) (by repeat' (first | exact trivial | assumption | exact flat_no _ | exact (fun _ h => nomatch h) | apply And.intro)) fun S q pc hS hq hC hE => ?_
 conv => whnf
 by_cases h:a ≤ x
 ·rw [show decide (x ≥ a) = true from decide_eq_true h]
  conv => whnf
  exact ⟨_,rfl,wkb (by simp [h])⟩
 ·rw [show decide (x ≥ a) = false from decide_eq_false h]
  conv => whnf
  exact ⟨_,rfl,wkb (by simp [h])⟩
theorem gTeeth_pure {x:Int} (h:4 ≤ x ∧ x ≤ 60):Pure prog 108 [iv x] (.bool true) :=by
 have p :=gin_pure x 4 60
 rw [decide_eq_true h] at p
 refine pure_sym hE rfl (by repeat' (first | exact trivial | assumption | exact flat_no _ | exact (fun _ h => nomatch h) | apply And.intro)) (by repeat' (first | exact trivial | assumption | exact flat_no _ | exact (fun _ h => nomatch h) | apply And.intro)) fun S q pc hS hq hC hE => ?_
 conv => whnf
 refine sym_pure hC (p) ?_
 conv => whnf
 exact ⟨_,rfl,Wk.refl _⟩
theorem gFrac_pure (x y:Int):Pure prog 59 [fv x y] (.bool (decide ((0 ≤ x ∧ x ≤ 50000) ∧ 1 ≤ y ∧ y ≤ 50000))) :=by
 have p1 :=gin_pure x 0 50000
 have p2 :=gin_pure y 1 50000
 by_cases h1:0 ≤ x ∧ x ≤ 50000
 ·rw [decide_eq_true h1] at p1
  refine pure_sym hE rfl (by repeat' (first | exact trivial | assumption | exact flat_no _ | exact (fun _ h => nomatch h) | apply And.intro)) (by repeat' (first | exact trivial | assumption | exact flat_no _ | exact (fun _ h => nomatch h) | apply And.intro)) fun S q pc hS hq hC hE => ?_
  conv => whnf
  refine sym_pure hC (p1) ?_
  conv => whnf
  refine sym_pure hC (p2) ?_
  conv => whnf
  exact ⟨_,rfl,wkb (decide_eq_decide.2 ⟨fun k => ⟨h1,k⟩,fun k => k.2⟩)⟩
 ·rw [decide_eq_false h1] at p1
  refine pure_sym hE rfl (by repeat' (first | exact trivial | assumption | exact flat_no _ | exact (fun _ h => nomatch h) | apply And.intro)) (by repeat' (first | exact trivial | assumption | exact flat_no _ | exact (fun _ h => nomatch h) | apply And.intro)) fun S q pc hS hq hC hE => ?_
  conv => whnf
  refine sym_pure hC (p1) ?_
  conv => whnf
  exact ⟨_,rfl,wkb (decide_eq_false fun k => h1 k.1).symm⟩
theorem gAbove_pure (a b c d:Nat) (h1:a * d < 9223372036854775808) (h2:c * b < 9223372036854775808):Pure prog 58 [fv (Int.ofNat a) (Int.ofNat b),fv (Int.ofNat c) (Int.ofNat d)] (.bool (decide (c * b < a * d))) :=by
 refine pure_sym hE rfl (by repeat' (first | exact trivial | assumption | exact flat_no _ | exact (fun _ h => nomatch h) | apply And.intro)) (by repeat' (first | exact trivial | assumption | exact flat_no _ | exact (fun _ h => nomatch h) | apply And.intro)) fun S q pc hS hq hC hE => ?_
 conv => whnf
 exact ⟨_,rfl,wkb (by
  show decide (IntKind.i64.wrap (Int.ofNat a * Int.ofNat d) > IntKind.i64.wrap (Int.ofNat c * Int.ofNat b)) = _
  rw [show IntKind.i64.wrap (Int.ofNat a * Int.ofNat d) = Int.ofNat (a * d) from wrapN (m :=a * d) h1,show IntKind.i64.wrap (Int.ofNat c * Int.ofNat b) = Int.ofNat (c * b) from wrapN (m :=c * b) h2]
  exact decide_eq_decide.2 ⟨fun z => Int.ofNat_lt.1 z,fun z => Int.ofNat_lt.2 z⟩)⟩
theorem gWithin_pure (x a b:Int):Pure prog 52 [iv x,fv a b] (.bool (decide (a ≤ x ∧ x ≤ b))) :=by
 have p :=gin_pure x a b
 refine pure_sym hE rfl (by repeat' (first | exact trivial | assumption | exact flat_no _ | exact (fun _ h => nomatch h) | apply And.intro)) (by repeat' (first | exact trivial | assumption | exact flat_no _ | exact (fun _ h => nomatch h) | apply And.intro)) fun S q pc hS hq hC hE => ?_
 conv => whnf
 refine sym_pure hC (p) ?_
 conv => whnf
 exact ⟨_,rfl,Wk.refl _⟩
def ntE:Nat → List Nat → List AV
 | _,[] => []
 |i,n :: r => iv 2 :: nv i :: iv 0 :: nv n :: nv n :: iv 0 :: iv 0 :: iv 0 :: iv 0 :: ntE (i + 1) r
abbrev ntA (l:List Nat):AV :=.lst (ntE 0 l) l.length .no
abbrev nt1 (i n:Nat):AV :=.agg [iv 2,nv i,iv 0,nv n,nv n,iv 0,iv 0,iv 0,iv 0]
theorem ntE_no:∀ (i:Nat) (l:List Nat),Lives noL (ntE i l)
 | _,[] => trivial
 |i,_ :: r => ⟨trivial,trivial,trivial,trivial,trivial,trivial,trivial,trivial,trivial,ntE_no (i + 1) r⟩
theorem tak_nt:∀ (l:List Nat) (a:Nat) {i:Nat},i < l.length → takeN 9 (dropN (i * 9) (ntE a l)) = some [iv 2,nv (a + i),iv 0,nv (gn l i),nv (gn l i),iv 0,iv 0,iv 0,iv 0]
 |f :: r,a,0,_ => rfl
 |f :: r,a,i + 1,h => by
  have :=tak_nt r (a + 1) (i :=i) (by simpa using h)
  rw [show (i + 1) * 9 = i * 9 + 9 by omega,show a + (i + 1) = a + 1 + i by omega]
  exact this
 | [],_,i,h => absurd h (Nat.not_lt_zero _)
theorem isNote_pure {i n k:Nat} (hk:i < k) (h1:1 ≤ k) (h3:k ≤ 3) (hn:1 ≤ n ∧ n ≤ 120):Pure prog 111 [nt1 i n,nv (2 * k)] (.bool true) :=by
 have e0:(Int.ofNat n == 0) = false :=beq_eq_false_iff_ne.2 fun z => by have:(n:Int) = 0 :=z;omega
 have hn1:1 ≤ (n:Int) ∧ (n:Int) ≤ 120 :=by omega
 have p1 :=gin_pure (Int.ofNat i) 0 (IntKind.i64.wrap (IntKind.i64.wrap ((Int.ofNat (2 * k)).tdiv 2) - 1))
 rw [decide_eq_true (show 0 ≤ Int.ofNat i ∧ Int.ofNat i ≤ IntKind.i64.wrap (IntKind.i64.wrap ((Int.ofNat (2 * k)).tdiv 2) - 1) by rw [wrapK h1 h3];show (0:Int) ≤ (i:Int) ∧ (i:Int) ≤ (k:Int) - 1;omega)] at p1
 have p2 :=gin_pure (Int.ofNat n) 1 (Int.ofNat n)
 rw [decide_eq_true (show 1 ≤ Int.ofNat n ∧ Int.ofNat n ≤ Int.ofNat n from ⟨hn1.1,Int.le_refl _⟩)] at p2
 have e3:decide (Int.ofNat n ≤ 120) = true :=decide_eq_true hn1.2
 obtain rfl | rfl | rfl:k = 1 ∨ k = 2 ∨ k = 3 :=by omega
 all_goals
  refine pure_sym hE rfl (by repeat' (first | exact trivial | assumption | exact flat_no _ | exact (fun _ h => nomatch h) | apply And.intro)) (by repeat' (first | exact trivial | assumption | exact flat_no _ | exact (fun _ h => nomatch h) | apply And.intro)) fun S q pc hS hq hC hE => ?_
  conv => whnf
  repeat ((first
   |refine ko_sT e0 ?_
   |refine ko_rF e0 ?_
   |refine plan_as (pick_f e0) ?_
   |refine bool_false e0 ?_
   |refine sym_drawn hS (by kernel_rfl) ?_);conv => whnf)
  refine sym_eq hq true (by kernel_rfl) ?_
  conv => whnf
  refine sym_eq hq true (by kernel_rfl) ?_
  conv => whnf
  repeat ((first
   |refine ko_rT e3 ?_
   |refine ko_sF e3 ?_
   |refine plan_as (pick_t e3) ?_
   |refine bool_true e3 ?_
   |refine sym_pure hC (p1) ?_
   |refine sym_pure hC (p2) ?_
   |refine sym_drawn hS (by kernel_rfl) ?_);conv => whnf)
  exact ⟨_,rfl,wkb e3⟩
structure fdOk (sp:List (Nat × Nat)) (nt:List Nat):Prop where
 l1:1 ≤ nt.length
 l3:nt.length ≤ 3
 ln:sp.length = 2 * nt.length
 sp:∀ i,i < sp.length → 4 ≤ (gq sp i).1 ∧ (gq sp i).1 ≤ (gq sp i).2 ∧ (gq sp i).2 ≤ 60 ∧ (gq sp i).2 ≤ (gq sp i).1 + 5
 nt:∀ i,i < nt.length → 1 ≤ gn nt i ∧ gn nt i ≤ 120
abbrev fdA (sp:List (Nat × Nat)) (nt:List Nat):AV :=.agg [pv (zp sp),ntA nt]
theorem badSp_pure {a b:Nat} (h:4 ≤ a ∧ a ≤ b ∧ b ≤ 60 ∧ b ≤ a + 5):Pure prog 107 [fv (Int.ofNat a) (Int.ofNat b)] (.bool false) :=by
 have h4:4 ≤ (a:Int) :=by omega
 have h5:(a:Int) ≤ 60 :=by omega
 have h6:4 ≤ (b:Int) :=by omega
 have h7:(b:Int) ≤ 60 :=by omega
 have p1 :=gTeeth_pure (x :=Int.ofNat a) ⟨h4,h5⟩
 have p2 :=gTeeth_pure (x :=Int.ofNat b) ⟨h6,h7⟩
 have e1:IntKind.i64.wrap (Int.ofNat b - Int.ofNat a) = Int.ofNat b - Int.ofNat a :=wrapI (by show _ ≤ (b:Int) - (a:Int);omega) (by show (b:Int) - (a:Int) < _;omega)
 have p3 :=gin_pure (IntKind.i64.wrap (Int.ofNat b - Int.ofNat a)) 0 5
 rw [decide_eq_true (show 0 ≤ IntKind.i64.wrap (Int.ofNat b - Int.ofNat a) ∧ IntKind.i64.wrap (Int.ofNat b - Int.ofNat a) ≤ 5 by rw [e1];show (0:Int) ≤ (b:Int) - (a:Int) ∧ (b:Int) - (a:Int) ≤ 5;omega)] at p3
 refine pure_sym hE rfl (by repeat' (first | exact trivial | assumption | exact flat_no _ | exact (fun _ h => nomatch h) | apply And.intro)) (by repeat' (first | exact trivial | assumption | exact flat_no _ | exact (fun _ h => nomatch h) | apply And.intro)) fun S q pc hS hq hC hE => ?_
 conv => whnf
 refine sym_pure hC (p1) ?_
 conv => whnf
 refine sym_pure hC (p2) ?_
 conv => whnf
 refine sym_pure hC (p3) ?_
 conv => whnf
 exact ⟨_,rfl,Wk.refl _⟩
theorem spIdx_pure {sp:List (Nat × Nat)} {nt:List Nat} (h:fdOk sp nt):Pure prog 162 [pv (zp sp),.func (.func 107) [] []] (iv (-1)) :=by
 have ll :=flat_no (zp sp)
 have hz:(zp sp).length = sp.length :=zp_len sp
 have h1 :=h.ln
 have h3 :=h.l3
 refine pure_sym hE rfl (by repeat' (first | exact trivial | assumption | exact flat_no _ | exact (fun _ h => nomatch h) | apply And.intro)) (by repeat' (first | exact trivial | assumption | exact flat_no _ | exact (fun _ h => nomatch h) | apply And.intro)) fun S q pc hS hq hC hE => ?_
 conv => whnf
 refine sym_loop hE hS (A :=Nat) [0,1,7] (fun i => [(8,nv i)]) (fun _ => []) (fun i => i ≤ (zp sp).length) (fun i => (zp sp).length - i) 0 rfl rfl (by refine ⟨rfl,rfl,rfl,rfl,?_,?_⟩ <;> repeat' (first | exact trivial | exact rfl | exact Nat.zero_le _ | exact bdl_no ll | exact Nat.le_of_ble_eq_true rfl | exact bdl_no (by assumption) | exact bdl_no (flat_no _) | exact bdl_no (ivs_no _) | exact Nat.max_le.2 ⟨Nat.le_of_ble_eq_true rfl,bdl_no (ivs_no _)⟩ | apply And.intro)) (Nat.zero_le _) ?_
 intro i hi
 conv => whnf
 by_cases h1:i < (zp sp).length
 ·rw [show decide (Int.ofNat i < ↑(zp sp).length) = true from ltN_t h1]
  conv => whnf
  refine bool_true (inR_t h1) ?_
  conv => whnf
  refine plan_as (takP (tak_zp sp (hz ▸ h1))) ?_
  conv => whnf
  refine sym_pure hC (badSp_pure (h.sp i (hz ▸ h1))) ?_
  conv => whnf
  have hw:IntKind.i64.wrap (Int.ofNat i + 1) = Int.ofNat (i + 1) :=wrapN (m :=i + 1) (by omega)
  exact ⟨i + 1,h1,by omega,(by refine ⟨rfl,rfl,rfl,rfl,?_,?_⟩ <;> repeat' (first | exact trivial | exact rfl | exact Nat.zero_le _ | exact congrArg (fun z => some (AV.int .i64 z)) hw | exact bdl_no ll | exact Nat.le_of_ble_eq_true rfl | exact bdl_no (by assumption) | exact bdl_no (flat_no _) | exact bdl_no (ivs_no _) | exact Nat.max_le.2 ⟨Nat.le_of_ble_eq_true rfl,bdl_no (ivs_no _)⟩ | apply And.intro))⟩
 ·rw [show decide (Int.ofNat i < ↑(zp sp).length) = false from ltN_f h1]
  conv => whnf
  exact ⟨_,rfl,Wk.refl _⟩
theorem spHas_pure {sp:List (Nat × Nat)} {nt:List Nat} (h:fdOk sp nt):Pure prog 106 [pv (zp sp),.func (.func 107) [] []] (.bool false) :=by
 have ll :=flat_no (zp sp)
 refine pure_sym hE rfl (by repeat' (first | exact trivial | assumption | exact flat_no _ | exact (fun _ h => nomatch h) | apply And.intro)) (by repeat' (first | exact trivial | assumption | exact flat_no _ | exact (fun _ h => nomatch h) | apply And.intro)) fun S q pc hS hq hC hE => ?_
 conv => whnf
 refine sym_pure hC (spIdx_pure h) ?_
 conv => whnf
 exact ⟨_,rfl,Wk.refl _⟩
theorem isFind_pure {sp:List (Nat × Nat)} {nt:List Nat} (h:fdOk sp nt):Pure prog 51 [fdA sp nt] (.bool true) :=by
 have ll :=flat_no (zp sp)
 have lN :=ntE_no 0 nt
 have hz:(zp sp).length = sp.length :=zp_len sp
 have hln :=h.ln
 have h1 :=h.l1
 have h3 :=h.l3
 have e0:(((zp sp).length:Nat):Int) = Int.ofNat (2 * nt.length) :=by rw [hz,hln];rfl
 have e1:decide ((nt.length:Int) ≤ 8) = true :=decide_eq_true (by omega)
 have eA:(((zp sp).length:Int).tmod 2 == 0) = true :=by
  rw [beq_iff_eq,e0]
  obtain h | h | h:nt.length = 1 ∨ nt.length = 2 ∨ nt.length = 3 :=by omega
  all_goals rw [h];decide
 have pA :=gin_pure (((zp sp).length:Nat):Int) 2 6
 rw [decide_eq_true (show 2 ≤ (((zp sp).length:Nat):Int) ∧ (((zp sp).length:Nat):Int) ≤ 6 by omega)] at pA
 refine pure_sym hE rfl (by repeat' (first | exact trivial | assumption | exact flat_no _ | exact (fun _ h => nomatch h) | apply And.intro)) (by repeat' (first | exact trivial | assumption | exact flat_no _ | exact (fun _ h => nomatch h) | apply And.intro)) fun S q pc hS hq hC hE => ?_
 conv => whnf
 repeat ((first
  |refine ko_rT eA ?_
  |refine ko_sF eA ?_
  |refine plan_as (pick_t eA) ?_
  |refine bool_true eA ?_
  |refine ko_rT (gd_tt eA) ?_
  |refine ko_sF (gd_tt eA) ?_
  |refine plan_as (pick_t (gd_tt eA)) ?_
  |refine bool_true (gd_tt eA) ?_
  |refine ko_rT e1 ?_
  |refine ko_sF e1 ?_
  |refine plan_as (pick_t e1) ?_
  |refine bool_true e1 ?_
  |refine ko_rT (gd_tt e1) ?_
  |refine ko_sF (gd_tt e1) ?_
  |refine plan_as (pick_t (gd_tt e1)) ?_
  |refine bool_true (gd_tt e1) ?_
  |refine sym_pure hC (pA) ?_
  |refine sym_pure hC (spHas_pure h) ?_
  |refine sym_drawn hS (by kernel_rfl) ?_);conv => whnf)
 refine sym_call hC ?_
 conv => whnf
 refine sym_inline hE hS ?_
 conv => whnf
 conv => whnf
 refine sym_call hC ?_
 conv => whnf
 refine sym_inline hE hS ?_
 conv => whnf
 refine sym_loopG hE hS (A :=Nat) [0,1,7] (fun i => [(8,nv i)]) (fun _ => []) (fun _ => []) (fun i => i ≤ nt.length) (fun i => nt.length - i) 0 (Nat.le_of_ble_eq_true rfl) rfl (by refine ⟨rfl,rfl,rfl,rfl,rfl,rfl,2,rfl,?_,?_⟩ <;> repeat' (first | exact trivial | exact rfl | exact ⟨_,rfl,WkV.refl _⟩ | exact ⟨_,rfl,WkV.own _ _ _⟩ | exact Nat.zero_le _ | exact bdl_no ll | exact bdl_no lN | exact Nat.le_of_ble_eq_true rfl | exact bdl_no (by assumption) | exact bdl_no (flat_no _) | exact bdl_no (ivs_no _) | exact bdl_no (svs_no _) | exact Nat.max_le.2 ⟨Nat.le_of_ble_eq_true rfl,bdl_no (ivs_no _)⟩ | exact Nat.max_le.2 ⟨Nat.le_of_ble_eq_true rfl,bdl_no (svs_no _)⟩ | apply And.intro)) (Nat.zero_le _) ?_
 rintro i hi N hN
 obtain rfl:N = 2 :=hN
 have hi:i ≤ nt.length :=hi
 conv => whnf
 by_cases h2:i < nt.length
 ·have hw:IntKind.i64.wrap (Int.ofNat i + 1) = Int.ofNat (i + 1) :=wrapN (m :=i + 1) (by omega)
  have pN:Pure prog 111 [nt1 (0 + i) (gn nt i),iv (((zp sp).length:Nat):Int)] (.bool true) :=by
   rw [e0]
   exact isNote_pure (by omega) h1 h3 (h.nt i h2)
  refine bool_true (ltN_t h2) ?_
  conv => whnf
  refine bool_true (inR_t h2) ?_
  conv => whnf
  refine plan_as (takP (tak_nt nt 0 h2)) ?_
  conv => whnf
  refine sym_call hC ?_
  conv => whnf
  refine sym_inline hE hS ?_
  conv => whnf
  conv => whnf
  refine sym_pure hC (pN) ?_
  conv => whnf
  exact ⟨i + 1,h2,by show nt.length - (i + 1) < nt.length - i;omega,Nat.le_refl _,(by refine ⟨rfl,rfl,rfl,rfl,rfl,rfl,2,rfl,?_,?_⟩ <;> repeat' (first | exact trivial | exact rfl | exact ⟨_,rfl,WkV.refl _⟩ | exact ⟨_,rfl,WkV.own _ _ _⟩ | exact Nat.zero_le _ | exact ⟨_,rfl,WkV.int hw⟩ | exact bdl_no ll | exact bdl_no lN | exact Nat.le_of_ble_eq_true rfl | exact bdl_no (by assumption) | exact bdl_no (flat_no _) | exact bdl_no (ivs_no _) | exact bdl_no (svs_no _) | exact Nat.max_le.2 ⟨Nat.le_of_ble_eq_true rfl,bdl_no (ivs_no _)⟩ | exact Nat.max_le.2 ⟨Nat.le_of_ble_eq_true rfl,bdl_no (svs_no _)⟩ | apply And.intro))⟩
 ·refine bool_false (ltN_f h2) ?_
  conv => whnf
  refine .inl ?_
  conv => whnf
  exact ⟨_,rfl,Wk.refl _⟩
end
end Go.Abs.Seat

