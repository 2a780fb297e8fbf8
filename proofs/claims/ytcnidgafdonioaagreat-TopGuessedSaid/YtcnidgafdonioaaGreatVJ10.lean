/-
  Between which bounds the teeth of each wheel lie.
-/
import Derived.Test.YtcnidgafdonioaaGreatVJ8
namespace Go.Abs.Seat
noncomputable section
open Go Go.Abs Go.Proofs.Tryz
set_option maxRecDepth 100000
set_option maxHeartbeats 40000000
attribute [local irreducible] IntKind.wrap pEq
def knI (G:List (List Nat)) (i:Nat):Nat → Nat × Nat
 | 0 => (gn (gT G 0) i,gn (gT G 0) i)
 |j + 1 => (min (knI G i j).1 (gn (gT G j) i),max (knI G i j).2 (gn (gT G j) i))
def knL (G:List (List Nat)):Nat → List (Nat × Nat)
 | 0 => []
 |i + 1 => knL G i ++ [knI G i G.length]
theorem knL_len (G:List (List Nat)):∀ i,(knL G i).length = i
 | 0 => rfl
 |i + 1 => by rw [knL,List.length_append,knL_len G i];rfl
theorem nth_gT {G:List (List Nat)} {j i:Nat} (h:i < (gT G j).length):nth (ivs (zl (gT G j))) (i * 1) = some (nv (gn (gT G j) i)) :=by
 rw [nth_ivs1 (by rw [zl_len];exact h),gi_zl _ h]
def knH (o:Nat) (G:List (List Nat)) (i j:Nat):List (Nat × AObj) :=[(o,.cells (.node (nv (knI G i j).1) (.node (nv (knI G i j).2) .nil .nil) .nil) 2 54)]
theorem minI_n (a b:Nat):minI (Int.ofNat a) (Int.ofNat b) = Int.ofNat (min a b) :=by
 unfold minI
 by_cases c:b < a
 ·exact (if_pos (show Int.ofNat b < Int.ofNat a from Int.ofNat_lt.2 c)).trans (congrArg Int.ofNat (Nat.min_eq_right (Nat.le_of_lt c)).symm)
 ·exact (if_neg (show ¬ Int.ofNat b < Int.ofNat a from fun z => c (Int.ofNat_lt.1 z))).trans (congrArg Int.ofNat (Nat.min_eq_left (Nat.not_lt.1 c)).symm)
theorem maxI_n (a b:Nat):maxI (Int.ofNat a) (Int.ofNat b) = Int.ofNat (max a b) :=by
 unfold maxI
 by_cases c:a < b
 ·exact (if_pos (show Int.ofNat b > Int.ofNat a from Int.ofNat_lt.2 c)).trans (congrArg Int.ofNat (Nat.max_eq_right (Nat.le_of_lt c)).symm)
 ·exact (if_neg (show ¬ Int.ofNat b > Int.ofNat a from fun z => c (Int.ofNat_lt.1 z))).trans (congrArg Int.ofNat (Nat.max_eq_left (Nat.not_lt.1 c)).symm)
theorem knO {G:List (List Nat)} {i j ty:Nat}:OWk (AObj.cells (.node (iv (minI (Int.ofNat (knI G i j).1) (Int.ofNat (gn (gT G j) i)))) (.node (iv (maxI (Int.ofNat (knI G i j).2) (Int.ofNat (gn (gT G j) i)))) .nil .nil) .nil) 2 ty) (AObj.cells (.node (nv (knI G i (j + 1)).1) (.node (nv (knI G i (j + 1)).2) .nil .nil) .nil) 2 ty) :=by
 rw [minI_n,maxI_n];exact .same _
theorem rnKn0 {m:Nat} {rs:List Nat} {G:List (List Nat)} {i n j c e:Nat} (he:i = 0) (hn:n = G.length) (hj:j < rs.length) (h1:rs.getD j 0 = c) (h2:e = m + j):RnV m rs (.lst [nv (knI G i n).1,nv (knI G i n).2] (0 + 1) (.ch c)) (.lst (flat (zp (knL G (i + 1)))) (zp (knL G (i + 1))).length (.ch e)) :=by
 subst he hn
 exact RnV.ch hj h1 h2 (bdl_no (xs :=[nv (knI G 0 G.length).1,nv (knI G 0 G.length).2]) ⟨trivial,trivial,trivial⟩)
theorem rnKn1 {m:Nat} {rs:List Nat} {G:List (List Nat)} {i n j c e:Nat} (hn:n = G.length) (hj:j < rs.length) (h1:rs.getD j 0 = c) (h2:e = m + j):RnV m rs (.lst (flat (zp (knL G i)) ++ [nv (knI G i n).1,nv (knI G i n).2]) ((zp (knL G i)).length + (0 + 1)) (.ch c)) (.lst (flat (zp (knL G (i + 1)))) (zp (knL G (i + 1))).length (.ch e)) :=by
 subst hn
 exact rnB (l :=knL G i) (q :=knI G i G.length) hj h1 h2
theorem chKn (G:List (List Nat)) (i:Nat):AObj.chain ((zp (knL G i)).length + (0 + 1)) 2 54 = .chain (zp (knL G (i + 1))).length 2 54 :=by
 rw [zp_len,zp_len,knL,List.length_append];rfl
theorem chKn0 {G:List (List Nat)} {i:Nat} (he:i = 0):AObj.chain (0 + 1) 2 54 = .chain (zp (knL G (i + 1))).length 2 54 :=by subst he;rfl
theorem bdKn {l:List (Nat × Nat)} {k c n:Nat} (hc:c + 1 ≤ n):bd (.lst (flat (zp l)) k (.ch c)) ≤ n :=Nat.max_le.2 ⟨hc,bdl_no (flat_no _)⟩
theorem gKnown_pure {sp:List (Nat × Nat)} {nt:List Nat} (h:fdOk sp nt) {G:List (List Nat)} (e:gsL nt sp [] = G) (h1:0 < G.length) (hb:G.length ≤ 50000) (hG:∀ i,i < G.length → (gT G i).length = sp.length) :
  Pure prog 14 [fdA sp nt] (.tup [pv (zp (knL G sp.length)),iv 0]) :=by
 have lS :=flat_no (zp sp)
 have lN :=ntE_no 0 nt
 have hzs :=zp_len sp
 have hsp :=h.ln
 have h3 :=h.l3
 have pK :=asked_pure h (by rw [e];intro z;rw [z] at h1;exact absurd h1 (by decide))
 rw [e] at pK
 have eG:guV sp nt G = .agg [spA sp,ntA nt,.lst (tvl G) G.length .no] :=by
  cases G with
  |nil => exact absurd h1 (by decide)
  |cons x r => rfl
 rw [eG] at pK
 have lG :=tvl_no G
 have lGG:Live noL (.agg [spA sp,ntA nt,.lst (tvl G) G.length .no]) :=⟨⟨lS,fun _ h => nomatch h⟩,ntA_no nt,⟨lG,fun _ h => nomatch h⟩,trivial⟩
 have lv :=flat_no (zp (knL G sp.length))
 refine pure_sym hE rfl (by repeat' (first | exact trivial | assumption | exact flat_no _ | exact (fun _ h => nomatch h) | apply And.intro)) (by repeat' (first | exact trivial | assumption | exact flat_no _ | exact (fun _ h => nomatch h) | apply And.intro)) fun S q pc hS hq hC hE => ?_
 conv => whnf
 refine sym_pure hC (pK) ?_
 conv => whnf
 refine sym_loopR hE hS (A :=Nat × AV × List AObj) [] (fun x hx => nomatch hx) [1,4,21] (fun (i,v,_) => [(6,v),(22,nv i)]) (fun _ => []) (fun a => a.2.2) (fun (i,v,ux) => i ≤ sp.length ∧ (i = 0 ∧ v = .nils ∧ ux = [] ∨ 0 < i ∧ v = .lst (flat (zp (knL G i))) (zp (knL G i)).length (.ch 2) ∧ ux = [.chain (zp (knL G i)).length 2 54])) (fun (i,_) => sp.length - i) (0,.nils,[]) (Nat.le_of_ble_eq_true rfl) trivial rfl (by repeat' (first | exact trivial | exact Nat.zero_le _ | exact bdl_no lS | exact bdl_no lN | exact bdl_no lG | exact bz lGG | exact Nat.le_of_ble_eq_true rfl | exact bdl_no (by assumption) | exact bdl_no (flat_no _) | exact bdl_no (ivs_no _) | exact bdl_no (svs_no _) | exact Nat.max_le.2 ⟨Nat.le_of_ble_eq_true rfl,bdl_no (ivs_no _)⟩ | exact Nat.max_le.2 ⟨Nat.le_of_ble_eq_true rfl,bdl_no (svs_no _)⟩ | apply And.intro)) (by refine ⟨rfl,rfl,rfl,rfl,rfl,rfl,by decide,?_,?_,?_,by kernel_rfl,?_,?_⟩ <;> repeat' (first | exact trivial | exact rfl | exact ⟨_,rfl,RnV.wk (WkV.refl _) (Nat.zero_le _)⟩ | exact ⟨_,rfl,RnV.wk (WkV.refl _) (Nat.le_of_ble_eq_true rfl)⟩ | exact TrIw.refl _ _ _ _ _ | exact OWk.same _ | exact OWk.loop _ _ _ _ _ _ _ (by repeat' (first | exact trivial | exact WkV.refl _ | exact WkV.unk _ | apply And.intro)) | exact Nat.zero_le _ | exact bdl_no lS | exact bdl_no lN | exact bdl_no lG | exact bz lGG | exact Nat.le_of_ble_eq_true rfl | exact bdl_no (by assumption) | exact bdl_no (flat_no _) | exact bdl_no (ivs_no _) | exact bdl_no (svs_no _) | exact Nat.max_le.2 ⟨Nat.le_of_ble_eq_true rfl,bdl_no (ivs_no _)⟩ | exact Nat.max_le.2 ⟨Nat.le_of_ble_eq_true rfl,bdl_no (svs_no _)⟩ | apply And.intro)) ⟨Nat.zero_le _,.inl ⟨rfl,rfl,rfl⟩⟩ ?_
 rintro ⟨i,v,ux⟩ ⟨hi,⟨he,rfl,rfl⟩ | ⟨he,rfl,rfl⟩⟩ K hK
 ·obtain rfl:K = 2 :=hK
  have hi:i ≤ sp.length :=hi
  have he:i = 0 :=he
  have hi2:i < sp.length :=by have :=h.l1;omega
  conv => whnf
  have hi1:IntKind.i64.wrap (Int.ofNat i + 1) = Int.ofNat (i + 1) :=wrapN (m :=i + 1) (by omega)
  have hiz:i < (zp sp).length :=by omega
  have hl0:i < (gT G 0).length :=by rw [hG 0 h1];exact hi2
  have iz0:inR (Int.ofNat i) (zl (gT G 0)).length = true :=by rw [zl_len];exact inR_t hl0
  refine bool_true (ltN_t hiz) ?_
  conv => whnf
  refine bool_true (inR_t (i :=0) h1) ?_
  conv => whnf
  refine plan_as (nthP (nth_tvl G 0 h1)) ?_
  conv => whnf
  refine bool_true (iz0) ?_
  conv => whnf
  refine plan_as (nthP (nth_gT hl0)) ?_
  conv => whnf
  refine bool_true (inR_t (i :=0) h1) ?_
  conv => whnf
  refine plan_as (nthP (nth_tvl G 0 h1)) ?_
  conv => whnf
  refine bool_true (iz0) ?_
  conv => whnf
  refine plan_as (nthP (nth_gT hl0)) ?_
  conv => whnf
  refine sym_drawn hS (by kernel_rfl) ?_
  conv => whnf
  refine sym_loopQ hE hS (A :=Nat) [] (fun x hx => nomatch hx) [1,4,6,7,8,21,22,41,42] (fun j => [(43,nv j)]) (fun j => knH 17 G i j) (fun _ => []) (fun j => j ≤ G.length) (fun j => G.length - j) 0 (Nat.zero_le _) trivial rfl (by refine ⟨rfl,rfl,rfl,rfl,rfl,rfl,19,rfl,?_,?_,?_,?_,by kernel_rfl⟩ <;> repeat' (first | exact trivial | exact rfl | exact ⟨_,rfl,WkV.refl _⟩ | exact ⟨_,rfl,WkV.own _ _ _⟩ | exact TrIw.refl _ _ _ _ _ | exact OWk.same _ | exact OWk.loop _ _ _ _ _ _ _ (by repeat' (first | exact trivial | exact WkV.refl _ | exact WkV.unk _ | apply And.intro)) | exact Nat.zero_le _ | exact bdl_no lS | exact bdl_no lN | exact bdl_no lG | exact bz lGG | exact bz (fdA_no sp nt) | exact Nat.le_of_ble_eq_true rfl | exact bdl_no (by assumption) | exact bdl_no (flat_no _) | exact bdl_no (ivs_no _) | exact bdl_no (svs_no _) | exact Nat.max_le.2 ⟨Nat.le_of_ble_eq_true rfl,bdl_no (ivs_no _)⟩ | exact Nat.max_le.2 ⟨Nat.le_of_ble_eq_true rfl,bdl_no (svs_no _)⟩ | apply And.intro)) (Nat.zero_le _) ?_
  rintro j hj N hN
  obtain rfl:N = 19 :=hN
  have hj:j ≤ G.length :=hj
  conv => whnf
  by_cases hj2:j < G.length
  ·have hj1:IntKind.i64.wrap (Int.ofNat j + 1) = Int.ofNat (j + 1) :=wrapN (m :=j + 1) (by omega)
   have hlj:i < (gT G j).length :=by rw [hG j hj2];exact hi2
   have izj:inR (Int.ofNat i) (zl (gT G j)).length = true :=by rw [zl_len];exact inR_t hlj
   refine bool_true (ltN_t hj2) ?_
   conv => whnf
   refine bool_true (inR_t hj2) ?_
   conv => whnf
   refine plan_as (nthP (nth_tvl G j hj2)) ?_
   conv => whnf
   refine bool_true (izj) ?_
   conv => whnf
   refine plan_as (nthP (nth_gT hlj)) ?_
   conv => whnf
   refine bool_true (izj) ?_
   conv => whnf
   refine plan_as (nthP (nth_gT hlj)) ?_
   conv => whnf
   refine sym_drawn hS (by kernel_rfl) ?_
   conv => whnf
   exact ⟨j + 1,hj2,by show G.length - (j + 1) < G.length - j;omega,Nat.le_refl _,(by refine ⟨rfl,rfl,rfl,rfl,rfl,rfl,19,rfl,?_,?_,?_,?_,by kernel_rfl⟩ <;> repeat' (first | exact trivial | exact rfl | exact ⟨_,rfl,WkV.refl _⟩ | exact ⟨_,rfl,WkV.own _ _ _⟩ | exact TrIw.refl _ _ _ _ _ | exact OWk.same _ | exact OWk.loop _ _ _ _ _ _ _ (by repeat' (first | exact trivial | exact WkV.refl _ | exact WkV.unk _ | apply And.intro)) | exact Nat.zero_le _ | exact ⟨_,rfl,WkV.int hj1⟩ | exact bdl_no lS | exact bdl_no lN | exact bdl_no lG | exact bz lGG | exact bz (fdA_no sp nt) | exact knO | exact Nat.le_of_ble_eq_true rfl | exact bdl_no (by assumption) | exact bdl_no (flat_no _) | exact bdl_no (ivs_no _) | exact bdl_no (svs_no _) | exact Nat.max_le.2 ⟨Nat.le_of_ble_eq_true rfl,bdl_no (ivs_no _)⟩ | exact Nat.max_le.2 ⟨Nat.le_of_ble_eq_true rfl,bdl_no (svs_no _)⟩ | apply And.intro))⟩
  ·refine bool_false (ltN_f hj2) ?_
   conv => whnf
   refine .inl ?_
   have ej:j = G.length :=by omega
   conv => whnf
   exact ⟨(i + 1,.lst (flat (zp (knL G (i + 1)))) (zp (knL G (i + 1))).length (.ch 2),[.chain (zp (knL G (i + 1))).length 2 54]),[19],⟨hi2,.inr ⟨Nat.succ_pos _,rfl,rfl⟩⟩,by show sp.length - (i + 1) < sp.length - i;omega,(by refine ⟨rfl,rfl,rfl,rfl,rfl,rfl,by decide,?_,?_,?_,by kernel_rfl,?_,?_⟩ <;> repeat' (first | exact trivial | exact rfl | exact ⟨_,rfl,RnV.wk (WkV.refl _) (Nat.zero_le _)⟩ | exact ⟨_,rfl,RnV.wk (WkV.refl _) (Nat.le_of_ble_eq_true rfl)⟩ | exact TrIw.refl _ _ _ _ _ | exact OWk.same _ | exact OWk.loop _ _ _ _ _ _ _ (by repeat' (first | exact trivial | exact WkV.refl _ | exact WkV.unk _ | apply And.intro)) | exact Nat.zero_le _ | exact bdl_no lS | exact bdl_no lN | exact bdl_no lG | exact bz lGG | exact bz (fdA_no sp nt) | exact ⟨_,rfl,RnV.wk (WkV.int hi1) (Nat.zero_le _)⟩ | exact ⟨_,rfl,rnKn0 (j :=0) he ej (by decide) rfl rfl⟩ | exact chKn0 he | exact Nat.le_of_ble_eq_true rfl | exact bdl_no (by assumption) | exact bdl_no (flat_no _) | exact bdl_no (ivs_no _) | exact bdl_no (svs_no _) | exact Nat.max_le.2 ⟨Nat.le_of_ble_eq_true rfl,bdl_no (ivs_no _)⟩ | exact Nat.max_le.2 ⟨Nat.le_of_ble_eq_true rfl,bdl_no (svs_no _)⟩ | apply And.intro))⟩
 ·obtain rfl:K = 3 :=hK
  have hi:i ≤ sp.length :=hi
  by_cases hi2:i < sp.length
  ·conv => whnf
   have hi1:IntKind.i64.wrap (Int.ofNat i + 1) = Int.ofNat (i + 1) :=wrapN (m :=i + 1) (by omega)
   have hiz:i < (zp sp).length :=by omega
   have hl0:i < (gT G 0).length :=by rw [hG 0 h1];exact hi2
   have iz0:inR (Int.ofNat i) (zl (gT G 0)).length = true :=by rw [zl_len];exact inR_t hl0
   refine bool_true (ltN_t hiz) ?_
   conv => whnf
   refine bool_true (inR_t (i :=0) h1) ?_
   conv => whnf
   refine plan_as (nthP (nth_tvl G 0 h1)) ?_
   conv => whnf
   refine bool_true (iz0) ?_
   conv => whnf
   refine plan_as (nthP (nth_gT hl0)) ?_
   conv => whnf
   refine bool_true (inR_t (i :=0) h1) ?_
   conv => whnf
   refine plan_as (nthP (nth_tvl G 0 h1)) ?_
   conv => whnf
   refine bool_true (iz0) ?_
   conv => whnf
   refine plan_as (nthP (nth_gT hl0)) ?_
   conv => whnf
   refine sym_drawn hS (by kernel_rfl) ?_
   conv => whnf
   refine sym_loopQ hE hS (A :=Nat) [] (fun x hx => nomatch hx) [1,4,6,7,8,21,22,41,42] (fun j => [(43,nv j)]) (fun j => knH 18 G i j) (fun _ => []) (fun j => j ≤ G.length) (fun j => G.length - j) 0 (Nat.zero_le _) trivial rfl (by refine ⟨rfl,rfl,rfl,rfl,rfl,rfl,20,rfl,?_,?_,?_,?_,by kernel_rfl⟩ <;> repeat' (first | exact trivial | exact rfl | exact ⟨_,rfl,WkV.refl _⟩ | exact ⟨_,rfl,WkV.own _ _ _⟩ | exact TrIw.refl _ _ _ _ _ | exact OWk.same _ | exact OWk.loop _ _ _ _ _ _ _ (by repeat' (first | exact trivial | exact WkV.refl _ | exact WkV.unk _ | apply And.intro)) | exact Nat.zero_le _ | exact bdl_no lS | exact bdl_no lN | exact bdl_no lG | exact bz lGG | exact bz (fdA_no sp nt) | exact bdKn (Nat.le_of_ble_eq_true rfl) | exact Nat.le_of_ble_eq_true rfl | exact bdl_no (by assumption) | exact bdl_no (flat_no _) | exact bdl_no (ivs_no _) | exact bdl_no (svs_no _) | exact Nat.max_le.2 ⟨Nat.le_of_ble_eq_true rfl,bdl_no (ivs_no _)⟩ | exact Nat.max_le.2 ⟨Nat.le_of_ble_eq_true rfl,bdl_no (svs_no _)⟩ | apply And.intro)) (Nat.zero_le _) ?_
   rintro j hj N hN
   obtain rfl:N = 20 :=hN
   have hj:j ≤ G.length :=hj
   conv => whnf
   by_cases hj2:j < G.length
   ·have hj1:IntKind.i64.wrap (Int.ofNat j + 1) = Int.ofNat (j + 1) :=wrapN (m :=j + 1) (by omega)
    have hlj:i < (gT G j).length :=by rw [hG j hj2];exact hi2
    have izj:inR (Int.ofNat i) (zl (gT G j)).length = true :=by rw [zl_len];exact inR_t hlj
    refine bool_true (ltN_t hj2) ?_
    conv => whnf
    refine bool_true (inR_t hj2) ?_
    conv => whnf
    refine plan_as (nthP (nth_tvl G j hj2)) ?_
    conv => whnf
    refine bool_true (izj) ?_
    conv => whnf
    refine plan_as (nthP (nth_gT hlj)) ?_
    conv => whnf
    refine bool_true (izj) ?_
    conv => whnf
    refine plan_as (nthP (nth_gT hlj)) ?_
    conv => whnf
    refine sym_drawn hS (by kernel_rfl) ?_
    conv => whnf
    exact ⟨j + 1,hj2,by show G.length - (j + 1) < G.length - j;omega,Nat.le_refl _,(by refine ⟨rfl,rfl,rfl,rfl,rfl,rfl,20,rfl,?_,?_,?_,?_,by kernel_rfl⟩ <;> repeat' (first | exact trivial | exact rfl | exact ⟨_,rfl,WkV.refl _⟩ | exact ⟨_,rfl,WkV.own _ _ _⟩ | exact TrIw.refl _ _ _ _ _ | exact OWk.same _ | exact OWk.loop _ _ _ _ _ _ _ (by repeat' (first | exact trivial | exact WkV.refl _ | exact WkV.unk _ | apply And.intro)) | exact Nat.zero_le _ | exact ⟨_,rfl,WkV.int hj1⟩ | exact bdl_no lS | exact bdl_no lN | exact bdl_no lG | exact bz lGG | exact bz (fdA_no sp nt) | exact bdKn (Nat.le_of_ble_eq_true rfl) | exact knO | exact Nat.le_of_ble_eq_true rfl | exact bdl_no (by assumption) | exact bdl_no (flat_no _) | exact bdl_no (ivs_no _) | exact bdl_no (svs_no _) | exact Nat.max_le.2 ⟨Nat.le_of_ble_eq_true rfl,bdl_no (ivs_no _)⟩ | exact Nat.max_le.2 ⟨Nat.le_of_ble_eq_true rfl,bdl_no (svs_no _)⟩ | apply And.intro))⟩
   ·refine bool_false (ltN_f hj2) ?_
    conv => whnf
    refine .inl ?_
    have ej:j = G.length :=by omega
    conv => whnf
    have hl :=zp_len (knL G i)
    have hl2 :=knL_len G i
    refine bool_true (decide_eq_true (show ((zp (knL G i)).length + (0 + 1)) * 16 ≤ 140737488355328 by omega)) ?_
    conv => whnf
    refine bool_true (decide_eq_true (show (zp (knL G i)).length + (0 + 1) ≤ 9223372036854775807 by omega)) ?_
    conv => whnf
    refine bool_true (lenIs_flz (knL G i)) ?_
    conv => whnf
    refine bool_true (decide_eq_true rfl) ?_
    conv => whnf
    exact ⟨(i + 1,.lst (flat (zp (knL G (i + 1)))) (zp (knL G (i + 1))).length (.ch 2),[.chain (zp (knL G (i + 1))).length 2 54]),[2],⟨hi2,.inr ⟨Nat.succ_pos _,rfl,rfl⟩⟩,by show sp.length - (i + 1) < sp.length - i;omega,(by refine ⟨rfl,rfl,rfl,rfl,rfl,rfl,by decide,?_,?_,?_,by kernel_rfl,?_,?_⟩ <;> repeat' (first | exact trivial | exact rfl | exact ⟨_,rfl,RnV.wk (WkV.refl _) (Nat.zero_le _)⟩ | exact ⟨_,rfl,RnV.wk (WkV.refl _) (Nat.le_of_ble_eq_true rfl)⟩ | exact TrIw.refl _ _ _ _ _ | exact OWk.same _ | exact OWk.loop _ _ _ _ _ _ _ (by repeat' (first | exact trivial | exact WkV.refl _ | exact WkV.unk _ | apply And.intro)) | exact Nat.zero_le _ | exact bdl_no lS | exact bdl_no lN | exact bdl_no lG | exact bz lGG | exact bz (fdA_no sp nt) | exact ⟨_,rfl,RnV.wk (WkV.int hi1) (Nat.zero_le _)⟩ | exact ⟨_,rfl,rnKn1 (j :=0) ej (by decide) rfl rfl⟩ | exact chKn G i | exact Nat.le_of_ble_eq_true rfl | exact bdl_no (by assumption) | exact bdl_no (flat_no _) | exact bdl_no (ivs_no _) | exact bdl_no (svs_no _) | exact Nat.max_le.2 ⟨Nat.le_of_ble_eq_true rfl,bdl_no (ivs_no _)⟩ | exact Nat.max_le.2 ⟨Nat.le_of_ble_eq_true rfl,bdl_no (svs_no _)⟩ | apply And.intro))⟩
  ·conv => whnf
   refine bool_false (ltN_f (show ¬ i < (zp sp).length by omega)) ?_
   conv => whnf
   have en:i = sp.length :=by omega
   subst en
   exact ⟨_,rfl,wk_tup (wk_own rfl)⟩
end
end Go.Abs.Seat
