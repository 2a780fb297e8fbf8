/-
  The best of what all guesses turn their hands by.
-/
import Derived.Test.YtcnidgafdonioaaGreatVJ7
import Derived.Test.YtcnidgafdonioaaGreatVU5
/-! The best of what all guesses turn their hands by. -/
namespace Go.Abs.Seat
noncomputable section
open Go Go.Abs Go.Proofs.Tryz
set_option maxRecDepth 100000
set_option maxHeartbeats 40000000
attribute [local irreducible] IntKind.wrap pEq
abbrev gT (G:List (List Nat)) (i:Nat):List Nat :=G.getD i []
theorem nth_tvl:∀ (G:List (List Nat)) (i:Nat),i < G.length → nth (tvl G) (i * 1) = some (nl (zl (gT G i)))
 | [],i,h => absurd h (Nat.not_lt_zero _)
 | _ :: _,0,_ => rfl
 | _ :: r,i + 1,h => by
  have :=nth_tvl r i (by simpa using h)
  rw [Nat.mul_one] at this ⊢
  exact this
abbrev qw (x:Nat × Nat):AV :=fv (Int.ofNat x.1) (Int.ofNat x.2)
def bsI (bt:Nat × Nat → Nat × Nat → Bool) (G:List (List Nat)):Nat → Nat × Nat
 | 0 => (0,0)
 |i + 1 => if i = 0 ∨ bt (rdT (gT G i)) (bsI bt G i) = true then rdT (gT G i) else bsI bt G i
def btA (x y:Nat × Nat):Bool :=decide (y.1 * x.2 < x.1 * y.2)
def btB (x y:Nat × Nat):Bool :=decide (x.1 * y.2 < y.1 * x.2)
def qOk (x:Nat × Nat):Prop :=x.1 ≤ 216000 ∧ x.2 ≤ 216000
theorem btA_pure {x y:Nat × Nat} (hx:qOk x) (hy:qOk y):Pure prog 58 [qw x,qw y] (.bool (btA x y)) :=by
 have h1:x.1 * y.2 ≤ 216000 * 216000 :=Nat.mul_le_mul hx.1 hy.2
 have h2:y.1 * x.2 ≤ 216000 * 216000 :=Nat.mul_le_mul hy.1 hx.2
 exact gAbove_pure x.1 x.2 y.1 y.2 (by omega) (by omega)
theorem btB_pure {x y:Nat × Nat} (hx:qOk x) (hy:qOk y):Pure prog 57 [qw x,qw y] (.bool (btB x y)) :=by
 have p :=btA_pure hy hx
 refine pure_sym hE rfl (by repeat' (first | exact trivial | assumption | exact flat_no _ | exact (fun _ h => nomatch h) | apply And.intro)) (by repeat' (first | exact trivial | assumption | exact flat_no _ | exact (fun _ h => nomatch h) | apply And.intro)) fun S q pc hS hq hC hE => ?_
 conv => whnf
 refine sym_pure hC (p) ?_
 conv => whnf
 exact ⟨_,rfl,Wk.refl _⟩
theorem tOk.q {t:List Nat} (h:tOk t):qOk (rdT t) :=⟨h.tv.bx.2,h.tv.by_.2⟩
theorem bsI_q {bt:Nat × Nat → Nat × Nat → Bool} {G:List (List Nat)} (hG:∀ i,i < G.length → tOk (gT G i)):∀ i,i ≤ G.length → qOk (bsI bt G i)
 | 0,_ => ⟨Nat.zero_le _,Nat.zero_le _⟩
 |i + 1,h => by
  rw [bsI]
  split
  ·exact (hG i h).q
  ·exact bsI_q hG i (by omega)
theorem bsI_t {bt:Nat × Nat → Nat × Nat → Bool} {G:List (List Nat)} {i:Nat} (h:bt (rdT (gT G i)) (bsI bt G i) = true):bsI bt G (i + 1) = rdT (gT G i) :=if_pos (.inr h)
theorem bsI_f {bt:Nat × Nat → Nat × Nat → Bool} {G:List (List Nat)} {i:Nat} (h0:i ≠ 0) (h:bt (rdT (gT G i)) (bsI bt G i) = false):bsI bt G (i + 1) = bsI bt G i :=if_neg (by rw [h];exact fun z => z.elim h0 (fun z => nomatch z))
theorem bsI_0 (bt:Nat × Nat → Nat × Nat → Bool) (G:List (List Nat)):bsI bt G 1 = rdT (gT G 0) :=if_pos (.inl rfl)
theorem bsO {x y:Nat × Nat} {ty:Nat} (e:y = x):OWk (AObj.cells (.node (nv x.1) (.node (nv x.2) .nil .nil) .nil) 2 ty) (AObj.cells (.node (nv y.1) (.node (nv y.2) .nil .nil) .nil) 2 ty) :=by rw [e];exact .same _
theorem bsO0 {bt:Nat × Nat → Nat × Nat → Bool} {G:List (List Nat)} {ty:Nat}:OWk (AObj.cells (.node (iv 0) (.node (iv 0) .nil .nil) .nil) 2 ty) (AObj.cells (.node (nv (bsI bt G 0).1) (.node (nv (bsI bt G 0).2) .nil .nil) .nil) 2 ty) :=.same _
attribute [local irreducible] rdT bsI
def bsH (bt:Nat × Nat → Nat × Nat → Bool) (G:List (List Nat)) (i:Nat):List (Nat × AObj) :=[(2,.cells (.node (nv (bsI bt G i).1) (.node (nv (bsI bt G i).2) .nil .nil) .nil) 2 40),(3,.cells (.node (.bool (@Nat.rec (fun _ => Bool) false (fun _ _ => true) i)) .nil .nil) 1 4)]
theorem gBestA {sp:List (Nat × Nat)} {nt:List Nat} {G:List (List Nat)} (h1:1 ≤ G.length) (hb:G.length ≤ 50000) (hG:∀ i,i < G.length → tOk (gT G i)):Pure prog 55 [.func (.func 56) [.agg [spA sp,ntA nt,.lst (tvl G) G.length .no]] [],.func (.func 58) [] []] (qw (bsI btA G G.length)) :=by
 have lS :=flat_no (zp sp)
 have lN :=ntE_no 0 nt
 have lG :=tvl_no G
 have lGG:Live noL (.agg [spA sp,ntA nt,.lst (tvl G) G.length .no]) :=⟨⟨lS,fun _ h => nomatch h⟩,ntA_no nt,⟨lG,fun _ h => nomatch h⟩,trivial⟩
 refine pure_sym hE rfl (by repeat' (first | exact trivial | assumption | exact flat_no _ | exact (fun _ h => nomatch h) | apply And.intro)) (by repeat' (first | exact trivial | assumption | exact flat_no _ | exact (fun _ h => nomatch h) | apply And.intro)) fun S q pc hS hq hC hE => ?_
 conv => whnf
 refine sym_inline hE hS ?_
 conv => whnf
 refine sym_loopQ hE hS (A :=Nat) [2,3,5] (fun x hx => nomatch hx) [1,2,7,8] (fun i => [(9,nv i)]) (fun i => bsH btA G i) (fun _ => []) (fun i => i ≤ G.length) (fun i => G.length - i) 0 (Nat.le_of_ble_eq_true rfl) trivial rfl (by refine ⟨rfl,rfl,rfl,rfl,rfl,rfl,7,rfl,?_,?_,?_,?_,by kernel_rfl⟩ <;> repeat' (first | exact trivial | exact rfl | exact ⟨_,rfl,WkV.refl _⟩ | exact ⟨_,rfl,WkV.own _ _ _⟩ | exact TrIw.refl _ _ _ _ _ | exact OWk.same _ | exact OWk.loop _ _ _ _ _ _ _ (by repeat' (first | exact trivial | exact WkV.refl _ | exact WkV.unk _ | apply And.intro)) | exact Nat.zero_le _ | exact bdl_no lS | exact bdl_no lN | exact bdl_no lG | exact bz lGG | exact bsO0 | exact Nat.le_of_ble_eq_true rfl | exact bdl_no (by assumption) | exact bdl_no (flat_no _) | exact bdl_no (ivs_no _) | exact bdl_no (svs_no _) | exact Nat.max_le.2 ⟨Nat.le_of_ble_eq_true rfl,bdl_no (ivs_no _)⟩ | exact Nat.max_le.2 ⟨Nat.le_of_ble_eq_true rfl,bdl_no (svs_no _)⟩ | apply And.intro)) (Nat.zero_le _) ?_
 rintro i hi N hN
 obtain rfl:N = 7 :=hN
 have hi:i ≤ G.length :=hi
 by_cases hi2:i < G.length
 ·have hi1:IntKind.i64.wrap (Int.ofNat i + 1) = Int.ofNat (i + 1) :=wrapN (m :=i + 1) (by omega)
  have pT :=tturns_pure (hG i hi2)
  have pB :=btA_pure (hG i hi2).q (bsI_q (bt :=btA) hG i hi)
  cases i with
  |zero =>
   conv => whnf
   refine bool_true (ltN_t hi2) ?_
   conv => whnf
   refine bool_true (inR_t hi2) ?_
   conv => whnf
   refine plan_as (nthP (nth_tvl G 0 hi2)) ?_
   conv => whnf
   refine sym_pure hC (pT) ?_
   conv => whnf
   refine sym_code hE hS ?_
   conv => whnf
   refine sym_code hE hS ?_
   conv => whnf
   exact ⟨1,hi2,by show G.length - (1) < G.length - 0;omega,Nat.le_refl _,(by refine ⟨rfl,rfl,rfl,rfl,rfl,rfl,7,rfl,?_,?_,?_,?_,by kernel_rfl⟩ <;> repeat' (first | exact trivial | exact rfl | exact ⟨_,rfl,WkV.refl _⟩ | exact ⟨_,rfl,WkV.own _ _ _⟩ | exact TrIw.refl _ _ _ _ _ | exact OWk.same _ | exact OWk.loop _ _ _ _ _ _ _ (by repeat' (first | exact trivial | exact WkV.refl _ | exact WkV.unk _ | apply And.intro)) | exact Nat.zero_le _ | exact ⟨_,rfl,WkV.int hi1⟩ | exact bdl_no lS | exact bdl_no lN | exact bdl_no lG | exact bz lGG | exact bsO (bsI_0 btA G) | exact Nat.le_of_ble_eq_true rfl | exact bdl_no (by assumption) | exact bdl_no (flat_no _) | exact bdl_no (ivs_no _) | exact bdl_no (svs_no _) | exact Nat.max_le.2 ⟨Nat.le_of_ble_eq_true rfl,bdl_no (ivs_no _)⟩ | exact Nat.max_le.2 ⟨Nat.le_of_ble_eq_true rfl,bdl_no (svs_no _)⟩ | apply And.intro))⟩
  |succ k =>
   conv => whnf
   refine bool_true (ltN_t hi2) ?_
   conv => whnf
   refine bool_true (inR_t hi2) ?_
   conv => whnf
   refine plan_as (nthP (nth_tvl G (k + 1) hi2)) ?_
   conv => whnf
   refine sym_pure hC (pT) ?_
   conv => whnf
   refine sym_code hE hS ?_
   conv => whnf
   refine sym_code hE hS ?_
   conv => whnf
   by_cases hc:btA (rdT (gT G (k + 1))) (bsI btA G (k + 1)) = true
   ·rw [hc] at pB
    refine sym_pure hC (pB) ?_
    conv => whnf
    exact ⟨k + 1 + 1,hi2,by show G.length - (k + 1 + 1) < G.length - (k + 1);omega,Nat.le_refl _,(by refine ⟨rfl,rfl,rfl,rfl,rfl,rfl,7,rfl,?_,?_,?_,?_,by kernel_rfl⟩ <;> repeat' (first | exact trivial | exact rfl | exact ⟨_,rfl,WkV.refl _⟩ | exact ⟨_,rfl,WkV.own _ _ _⟩ | exact TrIw.refl _ _ _ _ _ | exact OWk.same _ | exact OWk.loop _ _ _ _ _ _ _ (by repeat' (first | exact trivial | exact WkV.refl _ | exact WkV.unk _ | apply And.intro)) | exact Nat.zero_le _ | exact ⟨_,rfl,WkV.int hi1⟩ | exact bdl_no lS | exact bdl_no lN | exact bdl_no lG | exact bz lGG | exact bsO (bsI_t hc) | exact Nat.le_of_ble_eq_true rfl | exact bdl_no (by assumption) | exact bdl_no (flat_no _) | exact bdl_no (ivs_no _) | exact bdl_no (svs_no _) | exact Nat.max_le.2 ⟨Nat.le_of_ble_eq_true rfl,bdl_no (ivs_no _)⟩ | exact Nat.max_le.2 ⟨Nat.le_of_ble_eq_true rfl,bdl_no (svs_no _)⟩ | apply And.intro))⟩
   ·have hc:btA (rdT (gT G (k + 1))) (bsI btA G (k + 1)) = false :=(Bool.not_eq_true _).mp hc
    rw [hc] at pB
    refine sym_pure hC (pB) ?_
    conv => whnf
    exact ⟨k + 1 + 1,hi2,by show G.length - (k + 1 + 1) < G.length - (k + 1);omega,Nat.le_refl _,(by refine ⟨rfl,rfl,rfl,rfl,rfl,rfl,7,rfl,?_,?_,?_,?_,by kernel_rfl⟩ <;> repeat' (first | exact trivial | exact rfl | exact ⟨_,rfl,WkV.refl _⟩ | exact ⟨_,rfl,WkV.own _ _ _⟩ | exact TrIw.refl _ _ _ _ _ | exact OWk.same _ | exact OWk.loop _ _ _ _ _ _ _ (by repeat' (first | exact trivial | exact WkV.refl _ | exact WkV.unk _ | apply And.intro)) | exact Nat.zero_le _ | exact ⟨_,rfl,WkV.int hi1⟩ | exact bdl_no lS | exact bdl_no lN | exact bdl_no lG | exact bz lGG | exact bsO (bsI_f (Nat.succ_ne_zero k) hc) | exact Nat.le_of_ble_eq_true rfl | exact bdl_no (by assumption) | exact bdl_no (flat_no _) | exact bdl_no (ivs_no _) | exact bdl_no (svs_no _) | exact Nat.max_le.2 ⟨Nat.le_of_ble_eq_true rfl,bdl_no (ivs_no _)⟩ | exact Nat.max_le.2 ⟨Nat.le_of_ble_eq_true rfl,bdl_no (svs_no _)⟩ | apply And.intro))⟩
 ·have en:i = G.length :=by omega
  subst en
  conv => whnf
  refine bool_false (ltN_f hi2) ?_
  conv => whnf
  refine .inl ?_
  conv => whnf
  exact ⟨_,rfl,Wk.refl _⟩
theorem gBestB {sp:List (Nat × Nat)} {nt:List Nat} {G:List (List Nat)} (h1:1 ≤ G.length) (hb:G.length ≤ 50000) (hG:∀ i,i < G.length → tOk (gT G i)):Pure prog 55 [.func (.func 56) [.agg [spA sp,ntA nt,.lst (tvl G) G.length .no]] [],.func (.func 57) [] []] (qw (bsI btB G G.length)) :=by
 have lS :=flat_no (zp sp)
 have lN :=ntE_no 0 nt
 have lG :=tvl_no G
 have lGG:Live noL (.agg [spA sp,ntA nt,.lst (tvl G) G.length .no]) :=⟨⟨lS,fun _ h => nomatch h⟩,ntA_no nt,⟨lG,fun _ h => nomatch h⟩,trivial⟩
 refine pure_sym hE rfl (by repeat' (first | exact trivial | assumption | exact flat_no _ | exact (fun _ h => nomatch h) | apply And.intro)) (by repeat' (first | exact trivial | assumption | exact flat_no _ | exact (fun _ h => nomatch h) | apply And.intro)) fun S q pc hS hq hC hE => ?_
 conv => whnf
 refine sym_inline hE hS ?_
 conv => whnf
 refine sym_loopQ hE hS (A :=Nat) [2,3,5] (fun x hx => nomatch hx) [1,2,7,8] (fun i => [(9,nv i)]) (fun i => bsH btB G i) (fun _ => []) (fun i => i ≤ G.length) (fun i => G.length - i) 0 (Nat.le_of_ble_eq_true rfl) trivial rfl (by refine ⟨rfl,rfl,rfl,rfl,rfl,rfl,7,rfl,?_,?_,?_,?_,by kernel_rfl⟩ <;> repeat' (first | exact trivial | exact rfl | exact ⟨_,rfl,WkV.refl _⟩ | exact ⟨_,rfl,WkV.own _ _ _⟩ | exact TrIw.refl _ _ _ _ _ | exact OWk.same _ | exact OWk.loop _ _ _ _ _ _ _ (by repeat' (first | exact trivial | exact WkV.refl _ | exact WkV.unk _ | apply And.intro)) | exact Nat.zero_le _ | exact bdl_no lS | exact bdl_no lN | exact bdl_no lG | exact bz lGG | exact bsO0 | exact Nat.le_of_ble_eq_true rfl | exact bdl_no (by assumption) | exact bdl_no (flat_no _) | exact bdl_no (ivs_no _) | exact bdl_no (svs_no _) | exact Nat.max_le.2 ⟨Nat.le_of_ble_eq_true rfl,bdl_no (ivs_no _)⟩ | exact Nat.max_le.2 ⟨Nat.le_of_ble_eq_true rfl,bdl_no (svs_no _)⟩ | apply And.intro)) (Nat.zero_le _) ?_
 rintro i hi N hN
 obtain rfl:N = 7 :=hN
 have hi:i ≤ G.length :=hi
 by_cases hi2:i < G.length
 ·have hi1:IntKind.i64.wrap (Int.ofNat i + 1) = Int.ofNat (i + 1) :=wrapN (m :=i + 1) (by omega)
  have pT :=tturns_pure (hG i hi2)
  have pB :=btB_pure (hG i hi2).q (bsI_q (bt :=btB) hG i hi)
  cases i with
  |zero =>
   conv => whnf
   refine bool_true (ltN_t hi2) ?_
   conv => whnf
   refine bool_true (inR_t hi2) ?_
   conv => whnf
   refine plan_as (nthP (nth_tvl G 0 hi2)) ?_
   conv => whnf
   refine sym_pure hC (pT) ?_
   conv => whnf
   refine sym_code hE hS ?_
   conv => whnf
   refine sym_code hE hS ?_
   conv => whnf
   exact ⟨1,hi2,by show G.length - (1) < G.length - 0;omega,Nat.le_refl _,(by refine ⟨rfl,rfl,rfl,rfl,rfl,rfl,7,rfl,?_,?_,?_,?_,by kernel_rfl⟩ <;> repeat' (first | exact trivial | exact rfl | exact ⟨_,rfl,WkV.refl _⟩ | exact ⟨_,rfl,WkV.own _ _ _⟩ | exact TrIw.refl _ _ _ _ _ | exact OWk.same _ | exact OWk.loop _ _ _ _ _ _ _ (by repeat' (first | exact trivial | exact WkV.refl _ | exact WkV.unk _ | apply And.intro)) | exact Nat.zero_le _ | exact ⟨_,rfl,WkV.int hi1⟩ | exact bdl_no lS | exact bdl_no lN | exact bdl_no lG | exact bz lGG | exact bsO (bsI_0 btB G) | exact Nat.le_of_ble_eq_true rfl | exact bdl_no (by assumption) | exact bdl_no (flat_no _) | exact bdl_no (ivs_no _) | exact bdl_no (svs_no _) | exact Nat.max_le.2 ⟨Nat.le_of_ble_eq_true rfl,bdl_no (ivs_no _)⟩ | exact Nat.max_le.2 ⟨Nat.le_of_ble_eq_true rfl,bdl_no (svs_no _)⟩ | apply And.intro))⟩
  |succ k =>
   conv => whnf
   refine bool_true (ltN_t hi2) ?_
   conv => whnf
   refine bool_true (inR_t hi2) ?_
   conv => whnf
   refine plan_as (nthP (nth_tvl G (k + 1) hi2)) ?_
   conv => whnf
   refine sym_pure hC (pT) ?_
   conv => whnf
   refine sym_code hE hS ?_
   conv => whnf
   refine sym_code hE hS ?_
   conv => whnf
   by_cases hc:btB (rdT (gT G (k + 1))) (bsI btB G (k + 1)) = true
   ·rw [hc] at pB
    refine sym_pure hC (pB) ?_
    conv => whnf
    exact ⟨k + 1 + 1,hi2,by show G.length - (k + 1 + 1) < G.length - (k + 1);omega,Nat.le_refl _,(by refine ⟨rfl,rfl,rfl,rfl,rfl,rfl,7,rfl,?_,?_,?_,?_,by kernel_rfl⟩ <;> repeat' (first | exact trivial | exact rfl | exact ⟨_,rfl,WkV.refl _⟩ | exact ⟨_,rfl,WkV.own _ _ _⟩ | exact TrIw.refl _ _ _ _ _ | exact OWk.same _ | exact OWk.loop _ _ _ _ _ _ _ (by repeat' (first | exact trivial | exact WkV.refl _ | exact WkV.unk _ | apply And.intro)) | exact Nat.zero_le _ | exact ⟨_,rfl,WkV.int hi1⟩ | exact bdl_no lS | exact bdl_no lN | exact bdl_no lG | exact bz lGG | exact bsO (bsI_t hc) | exact Nat.le_of_ble_eq_true rfl | exact bdl_no (by assumption) | exact bdl_no (flat_no _) | exact bdl_no (ivs_no _) | exact bdl_no (svs_no _) | exact Nat.max_le.2 ⟨Nat.le_of_ble_eq_true rfl,bdl_no (ivs_no _)⟩ | exact Nat.max_le.2 ⟨Nat.le_of_ble_eq_true rfl,bdl_no (svs_no _)⟩ | apply And.intro))⟩
   ·have hc:btB (rdT (gT G (k + 1))) (bsI btB G (k + 1)) = false :=(Bool.not_eq_true _).mp hc
    rw [hc] at pB
    refine sym_pure hC (pB) ?_
    conv => whnf
    exact ⟨k + 1 + 1,hi2,by show G.length - (k + 1 + 1) < G.length - (k + 1);omega,Nat.le_refl _,(by refine ⟨rfl,rfl,rfl,rfl,rfl,rfl,7,rfl,?_,?_,?_,?_,by kernel_rfl⟩ <;> repeat' (first | exact trivial | exact rfl | exact ⟨_,rfl,WkV.refl _⟩ | exact ⟨_,rfl,WkV.own _ _ _⟩ | exact TrIw.refl _ _ _ _ _ | exact OWk.same _ | exact OWk.loop _ _ _ _ _ _ _ (by repeat' (first | exact trivial | exact WkV.refl _ | exact WkV.unk _ | apply And.intro)) | exact Nat.zero_le _ | exact ⟨_,rfl,WkV.int hi1⟩ | exact bdl_no lS | exact bdl_no lN | exact bdl_no lG | exact bz lGG | exact bsO (bsI_f (Nat.succ_ne_zero k) hc) | exact Nat.le_of_ble_eq_true rfl | exact bdl_no (by assumption) | exact bdl_no (flat_no _) | exact bdl_no (ivs_no _) | exact bdl_no (svs_no _) | exact Nat.max_le.2 ⟨Nat.le_of_ble_eq_true rfl,bdl_no (ivs_no _)⟩ | exact Nat.max_le.2 ⟨Nat.le_of_ble_eq_true rfl,bdl_no (svs_no _)⟩ | apply And.intro))⟩
 ·have en:i = G.length :=by omega
  subst en
  conv => whnf
  refine bool_false (ltN_f hi2) ?_
  conv => whnf
  refine .inl ?_
  conv => whnf
  exact ⟨_,rfl,Wk.refl _⟩
theorem gTurns_pure {sp:List (Nat × Nat)} {nt:List Nat} (h:fdOk sp nt) {G:List (List Nat)} (e:gsL nt sp [] = G) (h1:1 ≤ G.length) (hb:G.length ≤ 50000) (hG:∀ i,i < G.length → tOk (gT G i)) :
  Pure prog 15 [fdA sp nt] (.tup [qw (bsI btB G G.length),qw (bsI btA G G.length),iv 0]) :=by
 have lS :=flat_no (zp sp)
 have lN :=ntE_no 0 nt
 have pK :=asked_pure h (by rw [e];intro z;rw [z] at h1;exact absurd h1 (by decide))
 rw [e] at pK
 have pA :=gBestA (sp :=sp) (nt :=nt) h1 hb hG
 have pB :=gBestB (sp :=sp) (nt :=nt) h1 hb hG
 obtain ⟨x,r,hG⟩ : ∃ x r,G = x :: r :=by
  cases G with
  |nil => exact absurd h1 (by decide)
  |cons x r => exact ⟨x,r,rfl⟩
 rw [hG] at pK pA pB ⊢
 have lG :=tvl_no (x :: r)
 have pK:Pure prog 54 [fdA sp nt,.bool true] (.tup [.agg [spA sp,ntA nt,.lst (tvl (x :: r)) (x :: r).length .no],iv 0]) :=pK
 obtain ⟨lo,hlo⟩ : ∃ lo,bsI btB (x :: r) (x :: r).length = lo :=⟨_,rfl⟩
 obtain ⟨hi,hhi⟩ : ∃ hi,bsI btA (x :: r) (x :: r).length = hi :=⟨_,rfl⟩
 rw [hlo] at pB ⊢
 rw [hhi] at pA ⊢
 refine pure_sym hE rfl (by repeat' (first | exact trivial | assumption | exact flat_no _ | exact (fun _ h => nomatch h) | apply And.intro)) (by repeat' (first | exact trivial | assumption | exact flat_no _ | exact (fun _ h => nomatch h) | apply And.intro)) fun S q pc hS hq hC hE => ?_
 conv => whnf
 refine sym_pure hC (pK) ?_
 conv => whnf
 refine sym_pure hC (pB) ?_
 conv => whnf
 refine sym_pure hC (pA) ?_
 conv => whnf
 refine sym_drawn hS (by kernel_rfl) ?_
 conv => whnf
 exact ⟨_,rfl,Wk.refl _⟩
end
end Go.Abs.Seat

