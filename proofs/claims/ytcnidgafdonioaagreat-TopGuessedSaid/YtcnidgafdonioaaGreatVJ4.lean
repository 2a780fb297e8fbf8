/-
  The search for guesses: its nodes.
-/
import Derived.Test.YtcnidgafdonioaaGreatVJ3
namespace Go.Abs.Seat
noncomputable section
open Go Go.Abs Go.Proofs.Tryz
set_option maxRecDepth 100000
set_option maxHeartbeats 40000000
attribute [local irreducible] IntKind.wrap pEq
def ndG (lo:Nat) (g:Nat → List (List Nat)):Nat → List (List Nat)
 | 0 => []
 |k + 1 => ndG lo g k ++ g (lo + k)
def uxG (q:Nat):List (List Nat) → List AObj
 | [] => []
 |x :: r => [.hole,.hole,.hole,.hole,.hole,.chain q 1 3,.hole,.hole] ++ [.chain (x :: r).length 1 110]
def uxH (q:Nat):List (List Nat) → List AObj
 | [] => []
 |x :: r => [.hole,.hole,.hole,.hole,.hole,.hole,.hole,.hole,.chain q 1 3] ++ [.chain (x :: r).length 1 110]
def uhG (w t:AV) (c:Nat) (T:List (List Nat)):List (Nat × AObj) :=[(2,gcell w t 115 c (lsG T))]
theorem argWkG {xs:List AV} {k c:Nat} {l:List Nat} (e:xs = ivs (zl l)) (ek:k = (zl l).length):WkV (.lst xs k (.ch c)) (nl (zl l)) :=by
 subst e ek
 exact WkV.own _ _ _
theorem hfunG_cw {P:Program} {w0 t0:AV} {f:FuncId} {y x:AV} {r:List AV} {b:Nat → AObj} {m a:Nat} {ty:TypeId} {sz:Nat} {e:TypeId} {L L':LState} {v:AV} (hw:WkV y x) (h:HFunG P w0 t0 f (x :: r) b m a ty sz e L L' v):HFunG P w0 t0 f (y :: r) b m a ty sz e L L' v :=by
 intro B H c hc h1 h2 h3 g vs cs w hr hv hl
 refine h B H c hc h1 h2 h3 g vs cs w hr ?_ ⟨hw.lv _ hl.1,hl.2⟩
 simp only [VRels] at hv ⊢
 obtain ⟨u,us,e,h1,h2⟩ :=hv
 exact ⟨u,us,e,hw.wk _ _ _ h1,h2⟩
theorem ivs_zl1 (l:List Nat) (n:Nat):ivs (zl (l ++ [n])) = ivs (zl l) ++ [nv n] :=by rw [zl_app]
theorem lsG_some {l:List (List Nat)} (h:l ≠ []):lsG l ≠ none :=by rw [lsG_ne h];exact fun z => nomatch z
theorem nodeG00 {sp:List (Nat × Nat)} {nt:List Nat} (h:fdOk sp nt) {g:Nat → List (List Nat)} (hl:0 < sp.length)
  (hg:∀ j,(gq sp 0).1 + j ≤ (gq sp 0).2 → HG sp nt (nl (zl [(gq sp 0).1 + j])) (lsG (ndG (gq sp 0).1 g j)) (lsG (ndG (gq sp 0).1 g j ++ g ((gq sp 0).1 + j)))):HG sp nt .nils none (lsG (ndG (gq sp 0).1 g ((gq sp 0).2 + 1 - (gq sp 0).1))) :=by
 have lS :=flat_no (zp sp)
 have lN :=ntE_no 0 nt
 have hsp :=h.ln
 have h3 :=h.l3
 have hzs :=zp_len sp
 have hs :=h.sp 0 hl
 obtain ⟨lo,hi,hlo⟩ : ∃ lo hi,gq sp 0 = (lo,hi) :=⟨_,_,rfl⟩
 rw [hlo] at hg hs ⊢
 have hg:∀ j,lo + j ≤ hi → HG sp nt (nl (zl [lo + j])) (lsG (ndG lo g j)) (lsG (ndG lo g j ++ g (lo + j))) :=hg
 have hs:4 ≤ lo ∧ lo ≤ hi ∧ hi ≤ 60 ∧ hi ≤ lo + 5 :=hs
 have tS:takeN 2 (dropN (0 * 2) (flat (zp sp))) = some [nv lo,nv hi] :=by
  have :=tak_zp sp hl
  rw [show gq sp 0 = (lo,hi) from hlo] at this
  exact this
 have eL:((0:Int) == (((zp sp).length:Nat):Int)) = false :=beq_eq_false_iff_ne.2 fun z => by omega
 have iS:inR (0:Int) (zp sp).length = true :=inR_t (i :=0) (by omega)
 show HG sp nt .nils none (lsG (ndG lo g (hi + 1 - lo)))
 refine hfunG_sym (w0 :=spA sp) (t0 :=ntA nt) ⟨lS,fun _ h => nomatch h⟩ (ntA_no nt) (h :=hpG sp nt (gcell (spA sp) (ntA nt) 115 8 none)) hE rfl (hpG_end sp nt _) rfl (Nat.le_of_ble_eq_true rfl) (Nat.le_of_ble_eq_true rfl) (Nat.zero_le _) (hbdG sp nt) trivial (lsG_bd _) (fun h => absurd rfl h) (by repeat' (first | exact trivial | exact .inl rfl | exact .inr rfl | apply And.intro)) rfl rfl fun S q pc hS hq hC hE => ?_
 conv => whnf
 refine bool_false (eL) ?_
 conv => whnf
 refine bool_true (iS) ?_
 conv => whnf
 refine plan_as (takP tS) ?_
 conv => whnf
 refine sym_loopY hE hS (A :=Nat × List (List Nat)) [2] (fun x hx => nomatch hx) [0,1,2,3,6] (fun (j,_) => [(7,nv (lo + j))]) (fun (_,T) => uhG (spA sp) (ntA nt) 17 T) (fun (_,T) => uxG (0 + 1) T) (fun (j,T) => lo + j ≤ hi + 1 ∧ T = ndG lo g j) (fun (j,_) => hi + 1 - (lo + j)) (0,[]) (Nat.le_of_ble_eq_true rfl) trivial rfl (by refine ⟨rfl,rfl,rfl,rfl,rfl,rfl,9,rfl,?_,?_,?_⟩ <;> repeat' (first | exact trivial | exact rfl | exact ⟨_,rfl,WkV.refl _⟩ | exact ⟨_,rfl,WkV.own _ _ _⟩ | exact OWk.same _ | exact OWk.loop _ _ _ _ _ _ _ (by repeat' (first | exact trivial | exact WkV.refl _ | exact WkV.unk _ | apply And.intro)) | exact Nat.zero_le _ | exact bdl_no lS | exact bdl_no lN | exact bz (fdA_no sp nt) | exact bz (gu0_no sp nt) | exact Nat.le_of_ble_eq_true rfl | exact bdl_no (by assumption) | exact bdl_no (flat_no _) | exact bdl_no (ivs_no _) | exact bdl_no (svs_no _) | exact Nat.max_le.2 ⟨Nat.le_of_ble_eq_true rfl,bdl_no (ivs_no _)⟩ | exact Nat.max_le.2 ⟨Nat.le_of_ble_eq_true rfl,bdl_no (svs_no _)⟩ | apply And.intro)) ⟨by show lo + 0 ≤ hi + 1;omega,rfl⟩ ?_
 rintro ⟨j,T⟩ ⟨hj,hT⟩ N hN
 have hj:lo + j ≤ hi + 1 :=hj
 have hT:T = ndG lo g j :=hT
 by_cases hn2:lo + j ≤ hi
 ·have hn1:IntKind.i64.wrap (Int.ofNat (lo + j) + 1) = Int.ofNat (lo + (j + 1)) :=wrapN (m :=lo + j + 1) (by omega)
  have c0:decide (Int.ofNat (lo + j) ≤ Int.ofNat hi) = true :=decide_eq_true (Int.ofNat_le.2 hn2)
  have hf :=hg j hn2
  rw [← hT] at hf
  have hT2:T ++ g (lo + j) = ndG lo g (j + 1) :=by rw [ndG,hT]
  obtain ⟨G,hG⟩ : ∃ G,G = g (lo + j) :=⟨_,rfl⟩
  rw [← hG] at hf hT2
  cases T with
  |nil =>
   obtain rfl:N = 9 :=hN
   cases G with
   |nil =>
    have hf:HG sp nt (nl (zl [lo + j])) none none :=hf
    conv => whnf
    refine bool_true (c0) ?_
    conv => whnf
    refine sym_call hC ?_
    conv => whnf
    refine sym_inline hE hS ?_
    conv => whnf
    refine sym_eq hq true (by kernel_rfl) ?_
    conv => whnf
    refine sym_call hC ?_
    conv => whnf
    refine sym_hcallG0 hS (hfunG_cw (argWkG rfl rfl) hf) (by exact Nat.le_of_ble_eq_true rfl) (by repeat' (first | exact trivial | exact .inl rfl | exact .inr rfl | apply And.intro)) rfl ?_
    conv => whnf
    refine sym_drawn hS (by kernel_rfl) ?_
    conv => whnf
    exact ⟨(j + 1,[]),⟨by show lo + (j + 1) ≤ hi + 1;omega,hT2⟩,by show hi + 1 - (lo + (j + 1)) < hi + 1 - (lo + j);omega,Nat.le_refl _,(by refine ⟨rfl,rfl,rfl,rfl,rfl,rfl,9,rfl,?_,?_,?_⟩ <;> repeat' (first | exact trivial | exact rfl | exact ⟨_,rfl,WkV.refl _⟩ | exact ⟨_,rfl,WkV.own _ _ _⟩ | exact OWk.same _ | exact OWk.loop _ _ _ _ _ _ _ (by repeat' (first | exact trivial | exact WkV.refl _ | exact WkV.unk _ | apply And.intro)) | exact Nat.zero_le _ | exact ⟨_,rfl,WkV.int hn1⟩ | exact bdl_no lS | exact bdl_no lN | exact bdcG (Nat.le_of_ble_eq_true rfl) | exact bz (fdA_no sp nt) | exact bz (gu0_no sp nt) | exact Nat.le_of_ble_eq_true rfl | exact bdl_no (by assumption) | exact bdl_no (flat_no _) | exact bdl_no (ivs_no _) | exact bdl_no (svs_no _) | exact Nat.max_le.2 ⟨Nat.le_of_ble_eq_true rfl,bdl_no (ivs_no _)⟩ | exact Nat.max_le.2 ⟨Nat.le_of_ble_eq_true rfl,bdl_no (svs_no _)⟩ | apply And.intro))⟩
   |cons y r =>
    have hf:HG sp nt (nl (zl [lo + j])) none (some (tvl (y :: r),(y :: r).length)) :=hf
    conv => whnf
    refine bool_true (c0) ?_
    conv => whnf
    refine sym_call hC ?_
    conv => whnf
    refine sym_inline hE hS ?_
    conv => whnf
    refine sym_eq hq true (by kernel_rfl) ?_
    conv => whnf
    refine sym_call hC ?_
    conv => whnf
    refine sym_hcallG1 hS (hfunG_cw (argWkG rfl rfl) hf) (by exact Nat.le_of_ble_eq_true rfl) (by exact Nat.le_of_ble_eq_true rfl) (by repeat' (first | exact trivial | exact .inl rfl | exact .inr rfl | apply And.intro)) rfl rfl rfl ?_
    conv => whnf
    refine sym_drawn hS (by kernel_rfl) ?_
    conv => whnf
    exact ⟨(j + 1,y :: r),⟨by show lo + (j + 1) ≤ hi + 1;omega,hT2⟩,by show hi + 1 - (lo + (j + 1)) < hi + 1 - (lo + j);omega,Nat.zero_le _,(by refine ⟨rfl,rfl,rfl,rfl,rfl,rfl,18,rfl,?_,?_,?_⟩ <;> repeat' (first | exact trivial | exact rfl | exact ⟨_,rfl,WkV.refl _⟩ | exact ⟨_,rfl,WkV.own _ _ _⟩ | exact OWk.same _ | exact OWk.loop _ _ _ _ _ _ _ (by repeat' (first | exact trivial | exact WkV.refl _ | exact WkV.unk _ | apply And.intro)) | exact Nat.zero_le _ | exact ⟨_,rfl,WkV.int hn1⟩ | exact bdl_no lS | exact bdl_no lN | exact bdcG (Nat.le_of_ble_eq_true rfl) | exact bz (fdA_no sp nt) | exact bz (gu0_no sp nt) | exact Nat.le_of_ble_eq_true rfl | exact bdl_no (by assumption) | exact bdl_no (flat_no _) | exact bdl_no (ivs_no _) | exact bdl_no (svs_no _) | exact Nat.max_le.2 ⟨Nat.le_of_ble_eq_true rfl,bdl_no (ivs_no _)⟩ | exact Nat.max_le.2 ⟨Nat.le_of_ble_eq_true rfl,bdl_no (svs_no _)⟩ | apply And.intro))⟩
  |cons x r =>
   obtain rfl:N = 18 :=hN
   have hf:HG sp nt (nl (zl [lo + j])) (some (tvl (x :: r),(x :: r).length)) (some (tvl (x :: r ++ G),(x :: r ++ G).length)) :=hf
   conv => whnf
   refine bool_true (c0) ?_
   conv => whnf
   refine sym_call hC ?_
   conv => whnf
   refine sym_inline hE hS ?_
   conv => whnf
   refine sym_eq hq true (by kernel_rfl) ?_
   conv => whnf
   refine sym_call hC ?_
   conv => whnf
   refine sym_hcallG2 hS (hfunG_cw (argWkG rfl rfl) hf) 17 (by exact Nat.le_of_ble_eq_true rfl) (by repeat' (first | exact trivial | exact .inl rfl | exact .inr rfl | apply And.intro)) rfl rfl rfl rfl ?_
   conv => whnf
   refine sym_drawn hS (by kernel_rfl) ?_
   conv => whnf
   exact ⟨(j + 1,x :: r ++ G),⟨by show lo + (j + 1) ≤ hi + 1;omega,hT2⟩,by show hi + 1 - (lo + (j + 1)) < hi + 1 - (lo + j);omega,Nat.le_refl _,(by refine ⟨rfl,rfl,rfl,rfl,rfl,rfl,18,rfl,?_,?_,?_⟩ <;> repeat' (first | exact trivial | exact rfl | exact ⟨_,rfl,WkV.refl _⟩ | exact ⟨_,rfl,WkV.own _ _ _⟩ | exact OWk.same _ | exact OWk.loop _ _ _ _ _ _ _ (by repeat' (first | exact trivial | exact WkV.refl _ | exact WkV.unk _ | apply And.intro)) | exact Nat.zero_le _ | exact ⟨_,rfl,WkV.int hn1⟩ | exact bdl_no lS | exact bdl_no lN | exact bdcG (Nat.le_of_ble_eq_true rfl) | exact bz (fdA_no sp nt) | exact bz (gu0_no sp nt) | exact Nat.le_of_ble_eq_true rfl | exact bdl_no (by assumption) | exact bdl_no (flat_no _) | exact bdl_no (ivs_no _) | exact bdl_no (svs_no _) | exact Nat.max_le.2 ⟨Nat.le_of_ble_eq_true rfl,bdl_no (ivs_no _)⟩ | exact Nat.max_le.2 ⟨Nat.le_of_ble_eq_true rfl,bdl_no (svs_no _)⟩ | apply And.intro))⟩
 ·have c0:decide (Int.ofNat (lo + j) ≤ Int.ofNat hi) = false :=decide_eq_false fun z => hn2 (Int.ofNat_le.1 z)
  have en:hi + 1 - lo = j :=by omega
  rw [en]
  rw [← hT]
  cases T with
  |nil =>
   obtain rfl:N = 9 :=hN
   conv => whnf
   refine bool_false (c0) ?_
   conv => whnf
   refine .inl ?_
   conv => whnf
   exact ⟨_,8,rfl,WkV.refl _,Nat.le_refl _,fun h => absurd rfl h,⟨.inr (.same _),.inr (.same _),.inr (.same _),.inr (.same _),.inr (.same _),.inl rfl,.inr (.same _),.inr (.same _),trivial⟩,rfl,fun h => absurd rfl h⟩
  |cons x r =>
   obtain rfl:N = 18 :=hN
   conv => whnf
   refine bool_false (c0) ?_
   conv => whnf
   refine .inl ?_
   conv => whnf
   exact ⟨_,17,rfl,WkV.refl _,Nat.le_of_ble_eq_true rfl,fun h => absurd rfl h,⟨.inr (.same _),.inr (.same _),.inr (.same _),.inr (.same _),.inr (.same _),.inl rfl,.inr (.same _),.inr (.same _),trivial⟩,rfl,fun _ => rfl⟩
theorem nodeG01 {sp:List (Nat × Nat)} {nt:List Nat} (h:fdOk sp nt) {LS:List (List Nat)} (hLS:LS ≠ []) {g:Nat → List (List Nat)} (hl:0 < sp.length)
  (hg:∀ j,(gq sp 0).1 + j ≤ (gq sp 0).2 → HG sp nt (nl (zl [(gq sp 0).1 + j])) (lsG (LS ++ ndG (gq sp 0).1 g j)) (lsG (LS ++ ndG (gq sp 0).1 g j ++ g ((gq sp 0).1 + j)))):HG sp nt .nils (lsG LS) (lsG (LS ++ ndG (gq sp 0).1 g ((gq sp 0).2 + 1 - (gq sp 0).1))) :=by
 have lS :=flat_no (zp sp)
 have lN :=ntE_no 0 nt
 have hsp :=h.ln
 have h3 :=h.l3
 have hzs :=zp_len sp
 have hs :=h.sp 0 hl
 obtain ⟨lo,hi,hlo⟩ : ∃ lo hi,gq sp 0 = (lo,hi) :=⟨_,_,rfl⟩
 rw [hlo] at hg hs ⊢
 have hg:∀ j,lo + j ≤ hi → HG sp nt (nl (zl [lo + j])) (lsG (LS ++ ndG lo g j)) (lsG (LS ++ ndG lo g j ++ g (lo + j))) :=hg
 have hs:4 ≤ lo ∧ lo ≤ hi ∧ hi ≤ 60 ∧ hi ≤ lo + 5 :=hs
 have tS:takeN 2 (dropN (0 * 2) (flat (zp sp))) = some [nv lo,nv hi] :=by
  have :=tak_zp sp hl
  rw [show gq sp 0 = (lo,hi) from hlo] at this
  exact this
 have eL:((0:Int) == (((zp sp).length:Nat):Int)) = false :=beq_eq_false_iff_ne.2 fun z => by omega
 have iS:inR (0:Int) (zp sp).length = true :=inR_t (i :=0) (by omega)
 show HG sp nt .nils (lsG LS) (lsG (LS ++ ndG lo g (hi + 1 - lo)))
 have lL :=tvl_no LS
 rw [lsG_ne hLS]
 refine hfunG_sym (w0 :=spA sp) (t0 :=ntA nt) ⟨lS,fun _ h => nomatch h⟩ (ntA_no nt) (n :=9) (h :=appT [.chain LS.length 1 110] 8 (hpG sp nt (gcell (spA sp) (ntA nt) 115 8 (some (tvl LS,LS.length))))) hE rfl (show HEnd _ 9 from appT_end [_] 8 _ (hpG_end sp nt _)) rfl (Nat.le_of_ble_eq_true rfl) (Nat.le_of_ble_eq_true rfl) (Nat.zero_le _) (hbdG sp nt) (bdl_no lL) (lsG_bd _) (fun _ => lsG_some fun z => hLS (List.append_eq_nil_iff.1 z).1) (by repeat' (first | exact trivial | exact .inl rfl | exact .inr rfl | apply And.intro)) rfl rfl fun S q pc hS hq hC hE => ?_
 conv => whnf
 refine bool_false (eL) ?_
 conv => whnf
 refine bool_true (iS) ?_
 conv => whnf
 refine plan_as (takP tS) ?_
 conv => whnf
 refine sym_loopY hE hS (A :=Nat × List (List Nat)) [2,8] (fun x hx => nomatch hx) [0,1,2,3,6] (fun (j,_) => [(7,nv (lo + j))]) (fun (_,T) => [(2,gcell (spA sp) (ntA nt) 115 8 (some (tvl T,T.length))),(8,.chain T.length 1 110)]) (fun _ => []) (fun (j,T) => lo + j ≤ hi + 1 ∧ T = LS ++ ndG lo g j) (fun (j,_) => hi + 1 - (lo + j)) (0,LS) (Nat.le_of_ble_eq_true rfl) trivial rfl (by refine ⟨rfl,rfl,rfl,rfl,rfl,rfl,10,rfl,?_,?_,?_⟩ <;> repeat' (first | exact trivial | exact rfl | exact ⟨_,rfl,WkV.refl _⟩ | exact ⟨_,rfl,WkV.own _ _ _⟩ | exact OWk.same _ | exact OWk.loop _ _ _ _ _ _ _ (by repeat' (first | exact trivial | exact WkV.refl _ | exact WkV.unk _ | apply And.intro)) | exact Nat.zero_le _ | exact bdl_no lS | exact bdl_no lN | exact bdcG (Nat.le_of_ble_eq_true rfl) | exact bz (fdA_no sp nt) | exact bz (gu0_no sp nt) | exact Nat.le_of_ble_eq_true rfl | exact bdl_no (by assumption) | exact bdl_no (flat_no _) | exact bdl_no (ivs_no _) | exact bdl_no (svs_no _) | exact Nat.max_le.2 ⟨Nat.le_of_ble_eq_true rfl,bdl_no (ivs_no _)⟩ | exact Nat.max_le.2 ⟨Nat.le_of_ble_eq_true rfl,bdl_no (svs_no _)⟩ | apply And.intro)) ⟨by show lo + 0 ≤ hi + 1;omega,(List.append_nil _).symm⟩ ?_
 rintro ⟨j,T⟩ ⟨hj,hT⟩ N hN
 have hj:lo + j ≤ hi + 1 :=hj
 have hT:T = LS ++ ndG lo g j :=hT
 by_cases hn2:lo + j ≤ hi
 ·have hn1:IntKind.i64.wrap (Int.ofNat (lo + j) + 1) = Int.ofNat (lo + (j + 1)) :=wrapN (m :=lo + j + 1) (by omega)
  have c0:decide (Int.ofNat (lo + j) ≤ Int.ofNat hi) = true :=decide_eq_true (Int.ofNat_le.2 hn2)
  have hf :=hg j hn2
  rw [← hT] at hf
  have hT2:T ++ g (lo + j) = LS ++ ndG lo g (j + 1) :=by rw [ndG,hT,List.append_assoc]
  obtain ⟨G,hG⟩ : ∃ G,G = g (lo + j) :=⟨_,rfl⟩
  rw [← hG] at hf hT2
  rw [lsG_ne (show T ≠ [] by rw [hT];exact fun z => hLS (List.append_eq_nil_iff.1 z).1),lsG_ne (show T ++ G ≠ [] by rw [hT];exact fun z => hLS (List.append_eq_nil_iff.1 (List.append_eq_nil_iff.1 z).1).1)] at hf
  obtain rfl:N = 10 :=hN
  conv => whnf
  refine bool_true (c0) ?_
  conv => whnf
  refine sym_call hC ?_
  conv => whnf
  refine sym_inline hE hS ?_
  conv => whnf
  refine sym_eq hq true (by kernel_rfl) ?_
  conv => whnf
  refine sym_call hC ?_
  conv => whnf
  refine sym_hcallG2 hS (hfunG_cw (argWkG rfl rfl) hf) 8 (by exact Nat.le_of_ble_eq_true rfl) (by repeat' (first | exact trivial | exact .inl rfl | exact .inr rfl | apply And.intro)) rfl rfl rfl rfl ?_
  conv => whnf
  refine sym_drawn hS (by kernel_rfl) ?_
  conv => whnf
  exact ⟨(j + 1,T ++ G),⟨by show lo + (j + 1) ≤ hi + 1;omega,hT2⟩,by show hi + 1 - (lo + (j + 1)) < hi + 1 - (lo + j);omega,Nat.le_refl _,(by refine ⟨rfl,rfl,rfl,rfl,rfl,rfl,10,rfl,?_,?_,?_⟩ <;> repeat' (first | exact trivial | exact rfl | exact ⟨_,rfl,WkV.refl _⟩ | exact ⟨_,rfl,WkV.own _ _ _⟩ | exact OWk.same _ | exact OWk.loop _ _ _ _ _ _ _ (by repeat' (first | exact trivial | exact WkV.refl _ | exact WkV.unk _ | apply And.intro)) | exact Nat.zero_le _ | exact ⟨_,rfl,WkV.int hn1⟩ | exact bdl_no lS | exact bdl_no lN | exact bdcG (Nat.le_of_ble_eq_true rfl) | exact bz (fdA_no sp nt) | exact bz (gu0_no sp nt) | exact Nat.le_of_ble_eq_true rfl | exact bdl_no (by assumption) | exact bdl_no (flat_no _) | exact bdl_no (ivs_no _) | exact bdl_no (svs_no _) | exact Nat.max_le.2 ⟨Nat.le_of_ble_eq_true rfl,bdl_no (ivs_no _)⟩ | exact Nat.max_le.2 ⟨Nat.le_of_ble_eq_true rfl,bdl_no (svs_no _)⟩ | apply And.intro))⟩
 ·have c0:decide (Int.ofNat (lo + j) ≤ Int.ofNat hi) = false :=decide_eq_false fun z => hn2 (Int.ofNat_le.1 z)
  have en:hi + 1 - lo = j :=by omega
  rw [en]
  obtain rfl:N = 10 :=hN
  rw [← hT,lsG_ne (show T ≠ [] by rw [hT];exact fun z => hLS (List.append_eq_nil_iff.1 z).1)]
  conv => whnf
  refine bool_false (c0) ?_
  conv => whnf
  refine .inl ?_
  conv => whnf
  exact ⟨_,8,rfl,WkV.refl _,Nat.le_refl _,fun _ => rfl,⟨.inr (.same _),.inr (.same _),.inr (.same _),.inr (.same _),.inr (.same _),.inl rfl,.inr (.same _),.inr (.same _),trivial⟩,rfl,fun _ => rfl⟩
theorem nodeG10 {sp:List (Nat × Nat)} {nt:List Nat} (h:fdOk sp nt) {now:List Nat} (hne:now ≠ []) {g:Nat → List (List Nat)} (hl:now.length < sp.length)
  (hg:∀ j,(gq sp now.length).1 + j ≤ (gq sp now.length).2 → HG sp nt (nl (zl (now ++ [(gq sp now.length).1 + j]))) (lsG (ndG (gq sp now.length).1 g j)) (lsG (ndG (gq sp now.length).1 g j ++ g ((gq sp now.length).1 + j)))):HG sp nt (nl (zl now)) none (lsG (ndG (gq sp now.length).1 g ((gq sp now.length).2 + 1 - (gq sp now.length).1))) :=by
 have lS :=flat_no (zp sp)
 have lN :=ntE_no 0 nt
 have hsp :=h.ln
 have h3 :=h.l3
 have hzs :=zp_len sp
 obtain ⟨x0,r0,rfl⟩ : ∃ x r,now = x :: r :=by
  cases now with
  |nil => exact absurd rfl hne
  |cons x r => exact ⟨x,r,rfl⟩
 have lT :=ivs_no (zl (x0 :: r0))
 have hz :=zl_len (x0 :: r0)
 have hr0:r0.length + 1 < sp.length :=hl
 have hs :=h.sp (x0 :: r0).length hr0
 obtain ⟨lo,hi,hlo⟩ : ∃ lo hi,gq sp (x0 :: r0).length = (lo,hi) :=⟨_,_,rfl⟩
 rw [hlo] at hg hs ⊢
 have hg:∀ j,lo + j ≤ hi → HG sp nt (nl (zl (x0 :: r0 ++ [lo + j]))) (lsG (ndG lo g j)) (lsG (ndG lo g j ++ g (lo + j))) :=hg
 have hs:4 ≤ lo ∧ lo ≤ hi ∧ hi ≤ 60 ∧ hi ≤ lo + 5 :=hs
 have tS:takeN 2 (dropN ((r0.length + 1) * 2) (flat (zp sp))) = some [nv lo,nv hi] :=by
  have :=tak_zp sp hr0
  rw [show gq sp (r0.length + 1) = (lo,hi) from hlo] at this
  exact this
 have eL:((((zl (x0 :: r0)).length:Nat):Int) == (((zp sp).length:Nat):Int)) = false :=beq_eq_false_iff_ne.2 fun z => by rw [hz,List.length_cons] at z;omega
 have iS:inR (((zl (x0 :: r0)).length:Nat):Int) (zp sp).length = true :=by rw [hz];exact inR_t (i :=r0.length + 1) (by omega)
 show HG sp nt (nl (zl (x0 :: r0))) none (lsG (ndG lo g (hi + 1 - lo)))
 refine hfunG_sym (w0 :=spA sp) (t0 :=ntA nt) ⟨lS,fun _ h => nomatch h⟩ (ntA_no nt) (h :=hpG sp nt (gcell (spA sp) (ntA nt) 115 8 none)) hE rfl (hpG_end sp nt _) rfl (Nat.le_of_ble_eq_true rfl) (Nat.max_le.2 ⟨bdl_no lT,Nat.le_of_ble_eq_true rfl⟩) (Nat.zero_le _) (hbdG sp nt) trivial (lsG_bd _) (fun h => absurd rfl h) (by repeat' (first | exact trivial | exact .inl rfl | exact .inr rfl | apply And.intro)) rfl rfl fun S q pc hS hq hC hE => ?_
 conv => whnf
 refine bool_false (eL) ?_
 conv => whnf
 refine bool_true (iS) ?_
 conv => whnf
 refine plan_as (takP (show takeN 2 (dropN ((((zl (x0 :: r0)).length:Nat):Int).toNat * 2) (flat (zp sp))) = some [nv lo,nv hi] by rw [hz];exact tS)) ?_
 conv => whnf
 refine sym_loopY hE hS (A :=Nat × List (List Nat)) [2] (fun x hx => nomatch hx) [0,1,2,3,6] (fun (j,_) => [(7,nv (lo + j))]) (fun (_,T) => uhG (spA sp) (ntA nt) 18 T) (fun (_,T) => uxH (0 + (zl (x0 :: r0)).length + (0 + 1)) T) (fun (j,T) => lo + j ≤ hi + 1 ∧ T = ndG lo g j) (fun (j,_) => hi + 1 - (lo + j)) (0,[]) (Nat.le_of_ble_eq_true rfl) trivial rfl (by refine ⟨rfl,rfl,rfl,rfl,rfl,rfl,9,rfl,?_,?_,?_⟩ <;> repeat' (first | exact trivial | exact rfl | exact ⟨_,rfl,WkV.refl _⟩ | exact ⟨_,rfl,WkV.own _ _ _⟩ | exact OWk.same _ | exact OWk.loop _ _ _ _ _ _ _ (by repeat' (first | exact trivial | exact WkV.refl _ | exact WkV.unk _ | apply And.intro)) | exact Nat.zero_le _ | exact bdl_no lS | exact bdl_no lN | exact bdl_no lT | exact bz (fdA_no sp nt) | exact bz (gu0_no sp nt) | exact Nat.le_of_ble_eq_true rfl | exact bdl_no (by assumption) | exact bdl_no (flat_no _) | exact bdl_no (ivs_no _) | exact bdl_no (svs_no _) | exact Nat.max_le.2 ⟨Nat.le_of_ble_eq_true rfl,bdl_no (ivs_no _)⟩ | exact Nat.max_le.2 ⟨Nat.le_of_ble_eq_true rfl,bdl_no (svs_no _)⟩ | apply And.intro)) ⟨by show lo + 0 ≤ hi + 1;omega,rfl⟩ ?_
 rintro ⟨j,T⟩ ⟨hj,hT⟩ N hN
 have hj:lo + j ≤ hi + 1 :=hj
 have hT:T = ndG lo g j :=hT
 by_cases hn2:lo + j ≤ hi
 ·have hn1:IntKind.i64.wrap (Int.ofNat (lo + j) + 1) = Int.ofNat (lo + (j + 1)) :=wrapN (m :=lo + j + 1) (by omega)
  have c0:decide (Int.ofNat (lo + j) ≤ Int.ofNat hi) = true :=decide_eq_true (Int.ofNat_le.2 hn2)
  have hf :=hg j hn2
  rw [← hT] at hf
  have hT2:T ++ g (lo + j) = ndG lo g (j + 1) :=by rw [ndG,hT]
  obtain ⟨G,hG⟩ : ∃ G,G = g (lo + j) :=⟨_,rfl⟩
  rw [← hG] at hf hT2
  cases T with
  |nil =>
   obtain rfl:N = 9 :=hN
   cases G with
   |nil =>
    have hf:HG sp nt (nl (zl (x0 :: r0 ++ [lo + j]))) none none :=hf
    conv => whnf
    refine bool_true (c0) ?_
    conv => whnf
    refine sym_call hC ?_
    conv => whnf
    refine sym_inline hE hS ?_
    conv => whnf
    refine sym_eq hq false (by kernel_rfl) ?_
    conv => whnf
    refine plan_as (pSrc_eq (e :=3) (ys :=ivs (zl (x0 :: r0))) (m :=(zl (x0 :: r0)).length) (own :=.no) (l :=ivs (zl (x0 :: r0))) (by kernel_rfl) rfl (takeN_ivs _)) ?_
    conv => whnf
    refine bool_true (allCells_ivs (zl (x0 :: r0))) ?_
    conv => whnf
    refine bool_true (decide_eq_true (show (0 + (zl (x0 :: r0)).length) * 8 ≤ 140737488355328 by omega)) ?_
    conv => whnf
    refine bool_true (decide_eq_true (show 0 + (zl (x0 :: r0)).length ≤ 9223372036854775807 by omega)) ?_
    conv => whnf
    refine bool_true (decide_eq_true (show (0 + (zl (x0 :: r0)).length + (0 + 1)) * 8 ≤ 140737488355328 by omega)) ?_
    conv => whnf
    refine bool_true (decide_eq_true (show 0 + (zl (x0 :: r0)).length + (0 + 1) ≤ 9223372036854775807 by omega)) ?_
    conv => whnf
    refine bool_true ((show lenIs (ivs (zl (x0 :: r0))) ((0 + (zl (x0 :: r0)).length) * 1) = true by rw [Nat.zero_add];exact lenIs_ivs _)) ?_
    conv => whnf
    refine bool_true (decide_eq_true rfl) ?_
    conv => whnf
    refine sym_call hC ?_
    conv => whnf
    refine sym_hcallG0 hS (hfunG_cw (argWkG (ivs_zl1 (x0 :: r0) (lo + j)).symm (by rw [zl_len];simp [List.length_map])) hf) (by exact Nat.le_of_ble_eq_true rfl) (by repeat' (first | exact trivial | exact .inl rfl | exact .inr rfl | apply And.intro)) rfl ?_
    conv => whnf
    refine sym_drawn hS (by kernel_rfl) ?_
    conv => whnf
    exact ⟨(j + 1,[]),⟨by show lo + (j + 1) ≤ hi + 1;omega,hT2⟩,by show hi + 1 - (lo + (j + 1)) < hi + 1 - (lo + j);omega,Nat.le_refl _,(by refine ⟨rfl,rfl,rfl,rfl,rfl,rfl,9,rfl,?_,?_,?_⟩ <;> repeat' (first | exact trivial | exact rfl | exact ⟨_,rfl,WkV.refl _⟩ | exact ⟨_,rfl,WkV.own _ _ _⟩ | exact OWk.same _ | exact OWk.loop _ _ _ _ _ _ _ (by repeat' (first | exact trivial | exact WkV.refl _ | exact WkV.unk _ | apply And.intro)) | exact Nat.zero_le _ | exact ⟨_,rfl,WkV.int hn1⟩ | exact bdl_no lS | exact bdl_no lN | exact bdl_no lT | exact bdcG (Nat.le_of_ble_eq_true rfl) | exact bz (fdA_no sp nt) | exact bz (gu0_no sp nt) | exact Nat.le_of_ble_eq_true rfl | exact bdl_no (by assumption) | exact bdl_no (flat_no _) | exact bdl_no (ivs_no _) | exact bdl_no (svs_no _) | exact Nat.max_le.2 ⟨Nat.le_of_ble_eq_true rfl,bdl_no (ivs_no _)⟩ | exact Nat.max_le.2 ⟨Nat.le_of_ble_eq_true rfl,bdl_no (svs_no _)⟩ | apply And.intro))⟩
   |cons y r =>
    have hf:HG sp nt (nl (zl (x0 :: r0 ++ [lo + j]))) none (some (tvl (y :: r),(y :: r).length)) :=hf
    conv => whnf
    refine bool_true (c0) ?_
    conv => whnf
    refine sym_call hC ?_
    conv => whnf
    refine sym_inline hE hS ?_
    conv => whnf
    refine sym_eq hq false (by kernel_rfl) ?_
    conv => whnf
    refine plan_as (pSrc_eq (e :=3) (ys :=ivs (zl (x0 :: r0))) (m :=(zl (x0 :: r0)).length) (own :=.no) (l :=ivs (zl (x0 :: r0))) (by kernel_rfl) rfl (takeN_ivs _)) ?_
    conv => whnf
    refine bool_true (allCells_ivs (zl (x0 :: r0))) ?_
    conv => whnf
    refine bool_true (decide_eq_true (show (0 + (zl (x0 :: r0)).length) * 8 ≤ 140737488355328 by omega)) ?_
    conv => whnf
    refine bool_true (decide_eq_true (show 0 + (zl (x0 :: r0)).length ≤ 9223372036854775807 by omega)) ?_
    conv => whnf
    refine bool_true (decide_eq_true (show (0 + (zl (x0 :: r0)).length + (0 + 1)) * 8 ≤ 140737488355328 by omega)) ?_
    conv => whnf
    refine bool_true (decide_eq_true (show 0 + (zl (x0 :: r0)).length + (0 + 1) ≤ 9223372036854775807 by omega)) ?_
    conv => whnf
    refine bool_true ((show lenIs (ivs (zl (x0 :: r0))) ((0 + (zl (x0 :: r0)).length) * 1) = true by rw [Nat.zero_add];exact lenIs_ivs _)) ?_
    conv => whnf
    refine bool_true (decide_eq_true rfl) ?_
    conv => whnf
    refine sym_call hC ?_
    conv => whnf
    refine sym_hcallG1 hS (hfunG_cw (argWkG (ivs_zl1 (x0 :: r0) (lo + j)).symm (by rw [zl_len];simp [List.length_map])) hf) (by exact Nat.le_of_ble_eq_true rfl) (by exact Nat.le_of_ble_eq_true rfl) (by repeat' (first | exact trivial | exact .inl rfl | exact .inr rfl | apply And.intro)) rfl rfl rfl ?_
    conv => whnf
    refine sym_drawn hS (by kernel_rfl) ?_
    conv => whnf
    exact ⟨(j + 1,y :: r),⟨by show lo + (j + 1) ≤ hi + 1;omega,hT2⟩,by show hi + 1 - (lo + (j + 1)) < hi + 1 - (lo + j);omega,Nat.zero_le _,(by refine ⟨rfl,rfl,rfl,rfl,rfl,rfl,19,rfl,?_,?_,?_⟩ <;> repeat' (first | exact trivial | exact rfl | exact ⟨_,rfl,WkV.refl _⟩ | exact ⟨_,rfl,WkV.own _ _ _⟩ | exact OWk.same _ | exact OWk.loop _ _ _ _ _ _ _ (by repeat' (first | exact trivial | exact WkV.refl _ | exact WkV.unk _ | apply And.intro)) | exact Nat.zero_le _ | exact ⟨_,rfl,WkV.int hn1⟩ | exact bdl_no lS | exact bdl_no lN | exact bdl_no lT | exact bdcG (Nat.le_of_ble_eq_true rfl) | exact bz (fdA_no sp nt) | exact bz (gu0_no sp nt) | exact Nat.le_of_ble_eq_true rfl | exact bdl_no (by assumption) | exact bdl_no (flat_no _) | exact bdl_no (ivs_no _) | exact bdl_no (svs_no _) | exact Nat.max_le.2 ⟨Nat.le_of_ble_eq_true rfl,bdl_no (ivs_no _)⟩ | exact Nat.max_le.2 ⟨Nat.le_of_ble_eq_true rfl,bdl_no (svs_no _)⟩ | apply And.intro))⟩
  |cons x r =>
   obtain rfl:N = 19 :=hN
   have hf:HG sp nt (nl (zl (x0 :: r0 ++ [lo + j]))) (some (tvl (x :: r),(x :: r).length)) (some (tvl (x :: r ++ G),(x :: r ++ G).length)) :=hf
   conv => whnf
   refine bool_true (c0) ?_
   conv => whnf
   refine sym_call hC ?_
   conv => whnf
   refine sym_inline hE hS ?_
   conv => whnf
   refine sym_eq hq false (by kernel_rfl) ?_
   conv => whnf
   refine plan_as (pSrc_eq (e :=3) (ys :=ivs (zl (x0 :: r0))) (m :=(zl (x0 :: r0)).length) (own :=.no) (l :=ivs (zl (x0 :: r0))) (by kernel_rfl) rfl (takeN_ivs _)) ?_
   conv => whnf
   refine bool_true (allCells_ivs (zl (x0 :: r0))) ?_
   conv => whnf
   refine bool_true (decide_eq_true (show (0 + (zl (x0 :: r0)).length) * 8 ≤ 140737488355328 by omega)) ?_
   conv => whnf
   refine bool_true (decide_eq_true (show 0 + (zl (x0 :: r0)).length ≤ 9223372036854775807 by omega)) ?_
   conv => whnf
   refine bool_true (decide_eq_true (show (0 + (zl (x0 :: r0)).length + (0 + 1)) * 8 ≤ 140737488355328 by omega)) ?_
   conv => whnf
   refine bool_true (decide_eq_true (show 0 + (zl (x0 :: r0)).length + (0 + 1) ≤ 9223372036854775807 by omega)) ?_
   conv => whnf
   refine bool_true ((show lenIs (ivs (zl (x0 :: r0))) ((0 + (zl (x0 :: r0)).length) * 1) = true by rw [Nat.zero_add];exact lenIs_ivs _)) ?_
   conv => whnf
   refine bool_true (decide_eq_true rfl) ?_
   conv => whnf
   refine sym_call hC ?_
   conv => whnf
   refine sym_hcallG2 hS (hfunG_cw (argWkG (ivs_zl1 (x0 :: r0) (lo + j)).symm (by rw [zl_len];simp [List.length_map])) hf) 18 (by exact Nat.le_of_ble_eq_true rfl) (by repeat' (first | exact trivial | exact .inl rfl | exact .inr rfl | apply And.intro)) rfl rfl rfl rfl ?_
   conv => whnf
   refine sym_drawn hS (by kernel_rfl) ?_
   conv => whnf
   exact ⟨(j + 1,x :: r ++ G),⟨by show lo + (j + 1) ≤ hi + 1;omega,hT2⟩,by show hi + 1 - (lo + (j + 1)) < hi + 1 - (lo + j);omega,Nat.le_refl _,(by refine ⟨rfl,rfl,rfl,rfl,rfl,rfl,19,rfl,?_,?_,?_⟩ <;> repeat' (first | exact trivial | exact rfl | exact ⟨_,rfl,WkV.refl _⟩ | exact ⟨_,rfl,WkV.own _ _ _⟩ | exact OWk.same _ | exact OWk.loop _ _ _ _ _ _ _ (by repeat' (first | exact trivial | exact WkV.refl _ | exact WkV.unk _ | apply And.intro)) | exact Nat.zero_le _ | exact ⟨_,rfl,WkV.int hn1⟩ | exact bdl_no lS | exact bdl_no lN | exact bdl_no lT | exact bdcG (Nat.le_of_ble_eq_true rfl) | exact bz (fdA_no sp nt) | exact bz (gu0_no sp nt) | exact Nat.le_of_ble_eq_true rfl | exact bdl_no (by assumption) | exact bdl_no (flat_no _) | exact bdl_no (ivs_no _) | exact bdl_no (svs_no _) | exact Nat.max_le.2 ⟨Nat.le_of_ble_eq_true rfl,bdl_no (ivs_no _)⟩ | exact Nat.max_le.2 ⟨Nat.le_of_ble_eq_true rfl,bdl_no (svs_no _)⟩ | apply And.intro))⟩
 ·have c0:decide (Int.ofNat (lo + j) ≤ Int.ofNat hi) = false :=decide_eq_false fun z => hn2 (Int.ofNat_le.1 z)
  have en:hi + 1 - lo = j :=by omega
  rw [en]
  rw [← hT]
  cases T with
  |nil =>
   obtain rfl:N = 9 :=hN
   conv => whnf
   refine bool_false (c0) ?_
   conv => whnf
   refine .inl ?_
   conv => whnf
   exact ⟨_,8,rfl,WkV.refl _,Nat.le_refl _,fun h => absurd rfl h,⟨.inr (.same _),.inr (.same _),.inr (.same _),.inr (.same _),.inr (.same _),.inl rfl,.inr (.same _),.inr (.same _),trivial⟩,rfl,fun h => absurd rfl h⟩
  |cons x r =>
   obtain rfl:N = 19 :=hN
   conv => whnf
   refine bool_false (c0) ?_
   conv => whnf
   refine .inl ?_
   conv => whnf
   exact ⟨_,18,rfl,WkV.refl _,Nat.le_of_ble_eq_true rfl,fun h => absurd rfl h,⟨.inr (.same _),.inr (.same _),.inr (.same _),.inr (.same _),.inr (.same _),.inl rfl,.inr (.same _),.inr (.same _),trivial⟩,rfl,fun _ => rfl⟩
theorem nodeG11 {sp:List (Nat × Nat)} {nt:List Nat} (h:fdOk sp nt) {now:List Nat} (hne:now ≠ []) {LS:List (List Nat)} (hLS:LS ≠ []) {g:Nat → List (List Nat)} (hl:now.length < sp.length)
  (hg:∀ j,(gq sp now.length).1 + j ≤ (gq sp now.length).2 → HG sp nt (nl (zl (now ++ [(gq sp now.length).1 + j]))) (lsG (LS ++ ndG (gq sp now.length).1 g j)) (lsG (LS ++ ndG (gq sp now.length).1 g j ++ g ((gq sp now.length).1 + j)))):HG sp nt (nl (zl now)) (lsG LS) (lsG (LS ++ ndG (gq sp now.length).1 g ((gq sp now.length).2 + 1 - (gq sp now.length).1))) :=by
 have lS :=flat_no (zp sp)
 have lN :=ntE_no 0 nt
 have hsp :=h.ln
 have h3 :=h.l3
 have hzs :=zp_len sp
 obtain ⟨x0,r0,rfl⟩ : ∃ x r,now = x :: r :=by
  cases now with
  |nil => exact absurd rfl hne
  |cons x r => exact ⟨x,r,rfl⟩
 have lT :=ivs_no (zl (x0 :: r0))
 have hz :=zl_len (x0 :: r0)
 have hr0:r0.length + 1 < sp.length :=hl
 have hs :=h.sp (x0 :: r0).length hr0
 obtain ⟨lo,hi,hlo⟩ : ∃ lo hi,gq sp (x0 :: r0).length = (lo,hi) :=⟨_,_,rfl⟩
 rw [hlo] at hg hs ⊢
 have hg:∀ j,lo + j ≤ hi → HG sp nt (nl (zl (x0 :: r0 ++ [lo + j]))) (lsG (LS ++ ndG lo g j)) (lsG (LS ++ ndG lo g j ++ g (lo + j))) :=hg
 have hs:4 ≤ lo ∧ lo ≤ hi ∧ hi ≤ 60 ∧ hi ≤ lo + 5 :=hs
 have tS:takeN 2 (dropN ((r0.length + 1) * 2) (flat (zp sp))) = some [nv lo,nv hi] :=by
  have :=tak_zp sp hr0
  rw [show gq sp (r0.length + 1) = (lo,hi) from hlo] at this
  exact this
 have eL:((((zl (x0 :: r0)).length:Nat):Int) == (((zp sp).length:Nat):Int)) = false :=beq_eq_false_iff_ne.2 fun z => by rw [hz,List.length_cons] at z;omega
 have iS:inR (((zl (x0 :: r0)).length:Nat):Int) (zp sp).length = true :=by rw [hz];exact inR_t (i :=r0.length + 1) (by omega)
 show HG sp nt (nl (zl (x0 :: r0))) (lsG LS) (lsG (LS ++ ndG lo g (hi + 1 - lo)))
 have lL :=tvl_no LS
 rw [lsG_ne hLS]
 refine hfunG_sym (w0 :=spA sp) (t0 :=ntA nt) ⟨lS,fun _ h => nomatch h⟩ (ntA_no nt) (n :=9) (h :=appT [.chain LS.length 1 110] 8 (hpG sp nt (gcell (spA sp) (ntA nt) 115 8 (some (tvl LS,LS.length))))) hE rfl (show HEnd _ 9 from appT_end [_] 8 _ (hpG_end sp nt _)) rfl (Nat.le_of_ble_eq_true rfl) (Nat.max_le.2 ⟨bdl_no lT,Nat.le_of_ble_eq_true rfl⟩) (Nat.zero_le _) (hbdG sp nt) (bdl_no lL) (lsG_bd _) (fun _ => lsG_some fun z => hLS (List.append_eq_nil_iff.1 z).1) (by repeat' (first | exact trivial | exact .inl rfl | exact .inr rfl | apply And.intro)) rfl rfl fun S q pc hS hq hC hE => ?_
 conv => whnf
 refine bool_false (eL) ?_
 conv => whnf
 refine bool_true (iS) ?_
 conv => whnf
 refine plan_as (takP (show takeN 2 (dropN ((((zl (x0 :: r0)).length:Nat):Int).toNat * 2) (flat (zp sp))) = some [nv lo,nv hi] by rw [hz];exact tS)) ?_
 conv => whnf
 refine sym_loopY hE hS (A :=Nat × List (List Nat)) [2,8] (fun x hx => nomatch hx) [0,1,2,3,6] (fun (j,_) => [(7,nv (lo + j))]) (fun (_,T) => [(2,gcell (spA sp) (ntA nt) 115 8 (some (tvl T,T.length))),(8,.chain T.length 1 110)]) (fun _ => []) (fun (j,T) => lo + j ≤ hi + 1 ∧ T = LS ++ ndG lo g j) (fun (j,_) => hi + 1 - (lo + j)) (0,LS) (Nat.le_of_ble_eq_true rfl) trivial rfl (by refine ⟨rfl,rfl,rfl,rfl,rfl,rfl,10,rfl,?_,?_,?_⟩ <;> repeat' (first | exact trivial | exact rfl | exact ⟨_,rfl,WkV.refl _⟩ | exact ⟨_,rfl,WkV.own _ _ _⟩ | exact OWk.same _ | exact OWk.loop _ _ _ _ _ _ _ (by repeat' (first | exact trivial | exact WkV.refl _ | exact WkV.unk _ | apply And.intro)) | exact Nat.zero_le _ | exact bdl_no lS | exact bdl_no lN | exact bdl_no lT | exact bdcG (Nat.le_of_ble_eq_true rfl) | exact bz (fdA_no sp nt) | exact bz (gu0_no sp nt) | exact Nat.le_of_ble_eq_true rfl | exact bdl_no (by assumption) | exact bdl_no (flat_no _) | exact bdl_no (ivs_no _) | exact bdl_no (svs_no _) | exact Nat.max_le.2 ⟨Nat.le_of_ble_eq_true rfl,bdl_no (ivs_no _)⟩ | exact Nat.max_le.2 ⟨Nat.le_of_ble_eq_true rfl,bdl_no (svs_no _)⟩ | apply And.intro)) ⟨by show lo + 0 ≤ hi + 1;omega,(List.append_nil _).symm⟩ ?_
 rintro ⟨j,T⟩ ⟨hj,hT⟩ N hN
 have hj:lo + j ≤ hi + 1 :=hj
 have hT:T = LS ++ ndG lo g j :=hT
 by_cases hn2:lo + j ≤ hi
 ·have hn1:IntKind.i64.wrap (Int.ofNat (lo + j) + 1) = Int.ofNat (lo + (j + 1)) :=wrapN (m :=lo + j + 1) (by omega)
  have c0:decide (Int.ofNat (lo + j) ≤ Int.ofNat hi) = true :=decide_eq_true (Int.ofNat_le.2 hn2)
  have hf :=hg j hn2
  rw [← hT] at hf
  have hT2:T ++ g (lo + j) = LS ++ ndG lo g (j + 1) :=by rw [ndG,hT,List.append_assoc]
  obtain ⟨G,hG⟩ : ∃ G,G = g (lo + j) :=⟨_,rfl⟩
  rw [← hG] at hf hT2
  rw [lsG_ne (show T ≠ [] by rw [hT];exact fun z => hLS (List.append_eq_nil_iff.1 z).1),lsG_ne (show T ++ G ≠ [] by rw [hT];exact fun z => hLS (List.append_eq_nil_iff.1 (List.append_eq_nil_iff.1 z).1).1)] at hf
  obtain rfl:N = 10 :=hN
  conv => whnf
  refine bool_true (c0) ?_
  conv => whnf
  refine sym_call hC ?_
  conv => whnf
  refine sym_inline hE hS ?_
  conv => whnf
  refine sym_eq hq false (by kernel_rfl) ?_
  conv => whnf
  refine plan_as (pSrc_eq (e :=3) (ys :=ivs (zl (x0 :: r0))) (m :=(zl (x0 :: r0)).length) (own :=.no) (l :=ivs (zl (x0 :: r0))) (by kernel_rfl) rfl (takeN_ivs _)) ?_
  conv => whnf
  refine bool_true (allCells_ivs (zl (x0 :: r0))) ?_
  conv => whnf
  refine bool_true (decide_eq_true (show (0 + (zl (x0 :: r0)).length) * 8 ≤ 140737488355328 by omega)) ?_
  conv => whnf
  refine bool_true (decide_eq_true (show 0 + (zl (x0 :: r0)).length ≤ 9223372036854775807 by omega)) ?_
  conv => whnf
  refine bool_true (decide_eq_true (show (0 + (zl (x0 :: r0)).length + (0 + 1)) * 8 ≤ 140737488355328 by omega)) ?_
  conv => whnf
  refine bool_true (decide_eq_true (show 0 + (zl (x0 :: r0)).length + (0 + 1) ≤ 9223372036854775807 by omega)) ?_
  conv => whnf
  refine bool_true ((show lenIs (ivs (zl (x0 :: r0))) ((0 + (zl (x0 :: r0)).length) * 1) = true by rw [Nat.zero_add];exact lenIs_ivs _)) ?_
  conv => whnf
  refine bool_true (decide_eq_true rfl) ?_
  conv => whnf
  refine sym_call hC ?_
  conv => whnf
  refine sym_hcallG2 hS (hfunG_cw (argWkG (ivs_zl1 (x0 :: r0) (lo + j)).symm (by rw [zl_len];simp [List.length_map])) hf) 8 (by exact Nat.le_of_ble_eq_true rfl) (by repeat' (first | exact trivial | exact .inl rfl | exact .inr rfl | apply And.intro)) rfl rfl rfl rfl ?_
  conv => whnf
  refine sym_drawn hS (by kernel_rfl) ?_
  conv => whnf
  exact ⟨(j + 1,T ++ G),⟨by show lo + (j + 1) ≤ hi + 1;omega,hT2⟩,by show hi + 1 - (lo + (j + 1)) < hi + 1 - (lo + j);omega,Nat.le_refl _,(by refine ⟨rfl,rfl,rfl,rfl,rfl,rfl,10,rfl,?_,?_,?_⟩ <;> repeat' (first | exact trivial | exact rfl | exact ⟨_,rfl,WkV.refl _⟩ | exact ⟨_,rfl,WkV.own _ _ _⟩ | exact OWk.same _ | exact OWk.loop _ _ _ _ _ _ _ (by repeat' (first | exact trivial | exact WkV.refl _ | exact WkV.unk _ | apply And.intro)) | exact Nat.zero_le _ | exact ⟨_,rfl,WkV.int hn1⟩ | exact bdl_no lS | exact bdl_no lN | exact bdl_no lT | exact bdcG (Nat.le_of_ble_eq_true rfl) | exact bz (fdA_no sp nt) | exact bz (gu0_no sp nt) | exact Nat.le_of_ble_eq_true rfl | exact bdl_no (by assumption) | exact bdl_no (flat_no _) | exact bdl_no (ivs_no _) | exact bdl_no (svs_no _) | exact Nat.max_le.2 ⟨Nat.le_of_ble_eq_true rfl,bdl_no (ivs_no _)⟩ | exact Nat.max_le.2 ⟨Nat.le_of_ble_eq_true rfl,bdl_no (svs_no _)⟩ | apply And.intro))⟩
 ·have c0:decide (Int.ofNat (lo + j) ≤ Int.ofNat hi) = false :=decide_eq_false fun z => hn2 (Int.ofNat_le.1 z)
  have en:hi + 1 - lo = j :=by omega
  rw [en]
  obtain rfl:N = 10 :=hN
  rw [← hT,lsG_ne (show T ≠ [] by rw [hT];exact fun z => hLS (List.append_eq_nil_iff.1 z).1)]
  conv => whnf
  refine bool_false (c0) ?_
  conv => whnf
  refine .inl ?_
  conv => whnf
  exact ⟨_,8,rfl,WkV.refl _,Nat.le_refl _,fun _ => rfl,⟨.inr (.same _),.inr (.same _),.inr (.same _),.inr (.same _),.inr (.same _),.inl rfl,.inr (.same _),.inr (.same _),trivial⟩,rfl,fun _ => rfl⟩
end
end Go.Abs.Seat
