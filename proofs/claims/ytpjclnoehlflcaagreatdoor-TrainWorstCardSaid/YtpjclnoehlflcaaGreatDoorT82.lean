/-
  Sharings held against each other by the document; the sharing that somebody proposes.
-/
import Derived.Test.YtpjclnoehlflcaaGreatDoorT81
import Derived.Test.YtpjclnoehlflcaaGreatDoorU15
import Derived.Test.YtpjclnoehlflcaaGreatDoorU5
/-! Sharings held against each other by the document; the sharing that somebody proposes. -/
namespace Go.Abs.Seat
noncomputable section
open Go Go.Abs Go.Proofs.Tryz
set_option maxRecDepth 100000
set_option maxHeartbeats 40000000
attribute [local irreducible] IntKind.wrap pEq
theorem bneN {A B:Nat} (h:A ≠ B):(Int.ofNat A != Int.ofNat B) = true :=bne_iff_ne.2 fun e => h (Int.ofNat.inj e)
theorem rPreferred_pure (a b:List (List (Nat × Nat))) (fs:List (Nat × Nat)) (t:Nat) (ha:a.length = fs.length) (hb:b.length = fs.length) (h3:fs.length ≤ 3) (ga:∀ u,u ∈ a → gT u) (gb:∀ u,u ∈ b → gT u) (hf:∀ f,f ∈ fs → f.1 ≤ 50000 ∧ 1 ≤ f.2 ∧ f.2 ≤ 50000) (ht:t ≤ 10000) :
  Pure prog 52 [tlV a,tlV b,pv (zp fs),nv t] (.bool (prfB t fs a b)) :=by
 have p1 :=rWorst_pure a fs t (by omega) h3 ga hf ht
 have p2 :=rWorst_pure b fs t (by omega) h3 gb hf ht
 have p3 :=rPairs_pure a (by omega) fun u hu => (ga u hu).2.1
 have p4 :=rPairs_pure b (by omega) fun u hu => (gb u hu).2.1
 have p5 :=rEarlier_pure a b (by omega) (fun u hu => (ga u hu).2.1) fun u hu => (gb u hu).2.1
 have la :=tls_no a
 have lb :=tls_no b
 have lf :=flat_no (zp fs)
 unfold prfB
 generalize wrA t 0 fs a = A at *
 generalize wrA t 0 fs b = B at *
 generalize smA 0 a = C at *
 generalize smA 0 b = D at *
 generalize earB a b = e at *
 by_cases h1:A = B
 ·subst h1
  rw [if_pos rfl]
  by_cases h2:C = D
  ·subst h2
   rw [if_pos rfl]
   refine zA fun S q pc hS hq hC hE => ?_
   conv=>whnf
   repeat ((first
    |refine sym_pure hC (p1) ?_
    |refine sym_pure hC (p2) ?_
    |refine sym_pure hC (p3) ?_
    |refine sym_pure hC (p4) ?_
    |refine sym_pure hC (p5) ?_
    |refine zd hS ?_
    |refine sym_eq hq true (eqBool_same _ _) ?_
    |rw [beq_self_eq_true]
    |rw [bne_self_eq_false]);conv=>whnf)
   exact ⟨_,rfl,Wk.refl _⟩
  ·rw [if_neg h2]
   refine zA fun S q pc hS hq hC hE => ?_
   conv=>whnf
   repeat ((first
    |refine sym_pure hC (p1) ?_
    |refine sym_pure hC (p2) ?_
    |refine sym_pure hC (p3) ?_
    |refine sym_pure hC (p4) ?_
    |rw [bneN h2]
    |refine zd hS ?_
    |refine sym_eq hq true (eqBool_same _ _) ?_
    |rw [beq_self_eq_true]
    |rw [bne_self_eq_false]);conv=>whnf)
   exact ⟨_,rfl,wkb (decide_eq_decide.2 (by show (C:Int) < (D:Int) ↔ _;omega))⟩
 ·rw [if_neg h1]
  refine zA fun S q pc hS hq hC hE => ?_
  conv=>whnf
  repeat ((first
   |refine sym_pure hC (p1) ?_
   |refine sym_pure hC (p2) ?_
   |rw [bneN h1]
   |refine zd hS ?_
   |refine sym_eq hq true (eqBool_same _ _) ?_
   |rw [beq_self_eq_true]
   |rw [bne_self_eq_false]);conv=>whnf)
  exact ⟨_,rfl,wkb (decide_eq_decide.2 (by show (A:Int) < (B:Int) ↔ _;omega))⟩
theorem few2_pure (a b p s m:Int) {N:AV} {l:List Int} (hN:IL N l):Pure prog 114 [rv a b p s N,iv m] (rv a b m s N) :=by
 have lN :=hN.no
 rcases hN.cs with rfl | rfl
 all_goals
  refine zA fun S q pc hS hq hC hE => ?_
  conv=>whnf
  exact ⟨_,rfl,Wk.refl _⟩
def shC (tr:Nat → Nat × Nat → Option (List (Nat × Nat))) (P:Nat):List (List (Nat × Nat)) → List (Nat × Nat) → List Int → Option (List (List (Nat × Nat)))
 |acc,[],_ => some acc
 |acc,f :: r,m :: ms => if 1 ≤ m ∧ m ≤ (P:Int) then match tr m.toNat f with | none => none | some u => shC tr P (acc ++ [u]) r ms else none
 | _,_ :: _,[] => none
theorem shC_pck {tr:Nat → Nat × Nat → Option (List (Nat × Nat))} {P:Nat}:∀ (r:List (Nat × Nat)) (ms:List Int) (acc w:List (List (Nat × Nat))),shC tr P acc r ms = some w → ∃ us,w = acc ++ us ∧ pckd tr P r us
 | [],_,acc,w,h => by
  rw [shC] at h
  injection h with h
  exact ⟨[],by rw [List.append_nil,h],trivial⟩
 | _ :: _,[],_,_,h => by rw [shC] at h;cases h
 |f :: r,m :: ms,acc,w,h => by
  rw [shC] at h
  split at h
  ·rename_i h1
   cases e:tr m.toNat f with
   |none => rw [e] at h;cases h
   |some u =>
    rw [e] at h
    obtain ⟨us,h2,h3⟩ :=shC_pck r ms _ w h
    exact ⟨u :: us,by rw [h2,List.append_assoc];rfl,⟨m.toNat,by omega,e⟩,h3⟩
  ·cases h
def shR:Option (List (List (Nat × Nat))) → AV
 |none => .tup [.nils,.bool false]
 |some us => .tup [tlV us,.bool true]
theorem shR_no (o:Option (List (List (Nat × Nat)))):Live noL (shR o) :=by
 cases o with
 |none => exact ⟨trivial,trivial,trivial⟩
 |some us => exact ⟨⟨tls_no us,fun _ h => nomatch h⟩,trivial,trivial⟩
theorem app_tc (L:List (List (Nat × Nat))) (y:List (Nat × Nat)):AObj.chain (L.length + (0 + 1)) 1 22 = .chain (L ++ [y]).length 1 22 :=by
 rw [List.length_append];rfl
theorem wk_tl (o:List (List (Nat × Nat))) (b:Bool) (c:Nat):Wk (.tup [.lst (tls o) o.length (.ch c),.bool b]) (.tup [tlV o,.bool b]) :=by
 have :=Wk.wk (.tup [.lst (tls o) o.length (.ch c),.bool b])
 rwa [show wk (.tup [.lst (tls o) o.length (.ch c),.bool b]) = .tup [tlV o,.bool b] by simp only [wk,wkl,wkl_tls]] at this
theorem sharing_pure {N:AV} {l:List Int} (hN:IL N l) (hl:l.length < 4611686018427387904) (a b P:Nat) (s:Int) (ho:rOk (Int.ofNat a) (Int.ofNat b) (Int.ofNat P) s l) (fs:List (Nat × Nat)) (hf:1 ≤ fs.length ∧ fs.length ≤ 3) (hfb:∀ f,f ∈ fs → f.1 ≤ 50000 ∧ 1 ≤ f.2 ∧ f.2 ≤ 50000) (M:List Int) (hM:M.length = fs.length) :
  Pure prog 50 [rv (Int.ofNat a) (Int.ofNat b) (Int.ofNat P) s N,pv (zp fs),nl M] (shR (shC (trS a b l s) P [] fs M)) :=by
 have lf :=flat_no (zp fs)
 have lM :=ivs_no M
 have lnM:Live noL (nl M) :=⟨lM,fun _ h => nomatch h⟩
 have lR :=shR_no (shC (trS a b l s) P [] fs M)
 have hzf :=zp_len fs
 have lN :=hN.no
 have ho' :=ho
 obtain ⟨⟨h1,h2⟩,⟨h3,h4⟩,h5,⟨h6,h7⟩,h8,h9⟩ :=ho
 have h7:(P:Int) ≤ 3 :=h7
 have h1:4 ≤ (a:Int) :=h1
 have h4:(b:Int) ≤ 60 :=h4
 have h5:(a:Int) ≤ (b:Int) :=h5
 have ht :=trn_ok (a :=a) (b :=b) l s (by omega) (by omega) (p :=P) (by omega) hfb
 have pn:∀ (m:Nat) (f:Nat × Nat),1 ≤ m → m ≤ P → f ∈ fs → Pure prog 34 [rv (Int.ofNat a) (Int.ofNat b) (Int.ofNat m) s N,fv (Int.ofNat f.1) (Int.ofNat f.2)] (nV (trS a b l s m f)) :=fun m f k1 k2 hm => by
  have hb :=hfb f hm
  have hom:rOk (Int.ofNat a) (Int.ofNat b) (Int.ofNat m) s l :=⟨⟨h1,h2⟩,⟨h3,h4⟩,h5,⟨by show 1 ≤ (m:Int);omega,by show (m:Int) ≤ 3;omega⟩,h8,h9⟩
  have p :=pNearest_pure hN hl a b (by omega) (by omega) (by omega) m (by omega) s h8 (isRule_pure hN hl _ _ _ s (by omega) (r :=true) ⟨fun _ => hom,fun _ => rfl⟩) f.1 f.2 hb.1 hb.2
  rwa [nrT_lets (g :=letsP s) fun k q1 q2 => ⟨fun z => z.2,fun z => ⟨⟨by omega,by show (k:Int) ≤ (m:Int);omega⟩,z⟩⟩] at p
 generalize trS a b l s = tr at *
 have key:∀ N',(N' = .nils ∨ N' = nl l) → N' = N → Pure prog 50 [rv (Int.ofNat a) (Int.ofNat b) (Int.ofNat P) s N',pv (zp fs),nl M] (shR (shC tr P [] fs M)) :=by
  rintro N' hN' rfl
  have pF :=fun m => few2_pure (Int.ofNat a) (Int.ofNat b) (Int.ofNat P) s m hN
  rcases hN' with rfl | rfl
  all_goals
   refine zA fun S q pc hS hq hC hE => ?_
   conv=>whnf
   refine sym_loopR hE hS (A :=Nat × List (List (Nat × Nat)) × AV × List AObj) [] (fun x hx => nomatch hx) [1,2,3] (fun (i,_,v,_) => [(8,v),(9,nv i)]) (fun _ => []) (fun a => a.2.2.2) (fun (i,o,v,ux) => i ≤ fs.length ∧ o.length = i ∧ shC tr P o (fs.drop i) (M.drop i) = shC tr P [] fs M ∧ (i = 0 ∧ v = .nils ∧ ux = [] ∨ 0 < i ∧ v = .lst (tls o) o.length (.ch 1) ∧ ux = [.chain o.length 1 22])) (fun (i,_) => fs.length - i) (0,[],.nils,[]) (Nat.le_of_ble_eq_true rfl) trivial rfl (by repeat' (first | exact ⟨_,rfl,RnV.wk (WkV.refl _) (bz (pv_no _))⟩ | exact ⟨_,rfl,RnV.wk (WkV.refl _) (bz lnM)⟩ | exact bdl_no (ivs_no _) | exact bdl_no (flat_no _) | exact Nat.max_le.2 ⟨Nat.le_of_ble_eq_true rfl,bdl_no (tls_no _)⟩ | exact zZ | apply And.intro)) (by refine ⟨rfl,rfl,rfl,rfl,rfl,rfl,by decide,?_,?_,?_,by kernel_rfl,?_,?_⟩ <;> repeat' (first | exact ⟨_,rfl,RnV.wk (WkV.refl _) (bz (pv_no _))⟩ | exact ⟨_,rfl,RnV.wk (WkV.refl _) (bz lnM)⟩ | exact bdl_no (ivs_no _) | exact bdl_no (flat_no _) | exact Nat.max_le.2 ⟨Nat.le_of_ble_eq_true rfl,bdl_no (tls_no _)⟩ | exact zZ | apply And.intro)) ⟨Nat.zero_le _,rfl,rfl,.inl ⟨rfl,rfl,rfl⟩⟩ ?_
   rintro ⟨i,o,v,ux⟩ ⟨hi,hlo,he,⟨hi0,rfl,rfl⟩ | ⟨hne,rfl,rfl⟩⟩ K hK
   ·obtain rfl:K = 1 :=hK
    obtain rfl:o = [] :=List.eq_nil_of_length_eq_zero (by omega)
    conv=>whnf
    refine Or.elim (Classical.em (¬ i < fs.length)) (fun h => ?_) (fun h => ?_)
    ·have c1:decide (Int.ofNat i < ((zp fs).length:Int)) = false :=zF (by rw [hzf];show ¬ (i:Int) < _;omega)
     repeat ((first
      |refine ko_sT c1 ?_
      |refine ko_rF c1 ?_
      |refine plan_as (pick_f c1) ?_
      |refine bool_false c1 ?_
      |refine zd hS ?_);conv=>whnf)
     rw [drop_nil_gq (l :=fs) (by omega),shC] at he
     rw [← he]
     first
      |exact ⟨_,rfl,wk_tl _ _ _⟩
      |omega
    have h :=Classical.not_not.1 h
    have c1:decide (Int.ofNat i < ((zp fs).length:Int)) = true :=zT (by rw [hzf];show (i:Int) < _;omega)
    have hiM:i < M.length :=by omega
    have hi1:IntKind.i64.wrap (Int.ofNat i + 1) = Int.ofNat (i + 1) :=wrapN (m :=i + 1) (by omega)
    rw [drop_gq fs h,drop_gi M hiM,shC] at he
    refine Or.elim (Classical.em (gi M i < 1)) (fun g1 => ?_) (fun g1 => ?_)
    ·have c2:decide (gi M i < 1) = true :=zT g1
     rw [if_neg (by omega)] at he
     repeat ((first
      |refine plan_as (nthP (nth_ivs1 hiM)) ?_
      |refine ko_rT c1 ?_
      |refine ko_sF c1 ?_
      |refine plan_as (pick_t c1) ?_
      |refine bool_true c1 ?_
      |refine ko_rT c2 ?_
      |refine ko_sF c2 ?_
      |refine plan_as (pick_t c2) ?_
      |refine bool_true c2 ?_
      |refine ko_sT (gd_ft c2) ?_
      |refine ko_rF (gd_ft c2) ?_
      |refine plan_as (pick_f (gd_ft c2)) ?_
      |refine bool_false (gd_ft c2) ?_
      |refine ko_rT (inR_t hiM) ?_
      |refine ko_sF (inR_t hiM) ?_
      |refine plan_as (pick_t (inR_t hiM)) ?_
      |refine bool_true (inR_t hiM) ?_
      |refine zd hS ?_);conv=>whnf)
     rw [← he]
     exact ⟨_,rfl,Wk.refl _⟩
    have c2:decide (gi M i < 1) = false :=zF g1
    refine Or.elim (Classical.em (gi M i > Int.ofNat P)) (fun g2 => ?_) (fun g2 => ?_)
    ·have c3:decide (gi M i > Int.ofNat P) = true :=zT g2
     rw [if_neg (by show ¬ (1 ≤ gi M i ∧ gi M i ≤ (P:Int));have g2:gi M i > (P:Int) :=g2;omega)] at he
     repeat ((first
      |refine plan_as (nthP (nth_ivs1 hiM)) ?_
      |refine ko_rT c1 ?_
      |refine ko_sF c1 ?_
      |refine plan_as (pick_t c1) ?_
      |refine bool_true c1 ?_
      |refine ko_sT c2 ?_
      |refine ko_rF c2 ?_
      |refine plan_as (pick_f c2) ?_
      |refine bool_false c2 ?_
      |refine ko_rT c3 ?_
      |refine ko_sF c3 ?_
      |refine plan_as (pick_t c3) ?_
      |refine bool_true c3 ?_
      |refine ko_rT (gd_ff c2) ?_
      |refine ko_sF (gd_ff c2) ?_
      |refine plan_as (pick_t (gd_ff c2)) ?_
      |refine bool_true (gd_ff c2) ?_
      |refine ko_rT (inR_t hiM) ?_
      |refine ko_sF (inR_t hiM) ?_
      |refine plan_as (pick_t (inR_t hiM)) ?_
      |refine bool_true (inR_t hiM) ?_
      |refine zd hS ?_);conv=>whnf)
     rw [← he]
     exact ⟨_,rfl,Wk.refl _⟩
    have c3:decide (gi M i > Int.ofNat P) = false :=zF g2
    have g2:¬ gi M i > (P:Int) :=g2
    rw [if_pos (by omega)] at he
    have hmf :=gq_mem fs h
    have p :=pn (gi M i).toNat (gq fs i) (by omega) (by omega) hmf
    rw [show Int.ofNat (gi M i).toNat = gi M i by show ((gi M i).toNat:Int) = _;omega] at p
    have pf :=pF (gi M i)
    have hif:i < (zp fs).length :=by omega
    have hT :=ht.tv (gi M i).toNat (gq fs i)
    generalize tr (gi M i).toNat (gq fs i) = oT at *
    rcases oT with _ | u
    ·have p:Pure prog 34 [_,_] (.tup [.nils,iv 5]) :=p
     repeat ((first
      |refine plan_as (nthP (nth_ivs1 hiM)) ?_
      |refine plan_as (takP (tak_zp fs h)) ?_
      |refine ko_rT c1 ?_
      |refine ko_sF c1 ?_
      |refine plan_as (pick_t c1) ?_
      |refine bool_true c1 ?_
      |refine ko_sT c2 ?_
      |refine ko_rF c2 ?_
      |refine plan_as (pick_f c2) ?_
      |refine bool_false c2 ?_
      |refine ko_sT c3 ?_
      |refine ko_rF c3 ?_
      |refine plan_as (pick_f c3) ?_
      |refine bool_false c3 ?_
      |refine ko_rT (gd_ff c2) ?_
      |refine ko_sF (gd_ff c2) ?_
      |refine plan_as (pick_t (gd_ff c2)) ?_
      |refine bool_true (gd_ff c2) ?_
      |refine ko_rT (inR_t hiM) ?_
      |refine ko_sF (inR_t hiM) ?_
      |refine plan_as (pick_t (inR_t hiM)) ?_
      |refine bool_true (inR_t hiM) ?_
      |refine ko_rT (inR_t hif) ?_
      |refine ko_sF (inR_t hif) ?_
      |refine plan_as (pick_t (inR_t hif)) ?_
      |refine bool_true (inR_t hif) ?_
      |refine sym_pure hC (pf) ?_
      |refine sym_pure hC (p) ?_
      |refine zd hS ?_);conv=>whnf)
     rw [← he]
     exact ⟨_,rfl,Wk.refl _⟩
    have hT :=hT u (by omega) (by omega) hmf rfl
    have p:Pure prog 34 [_,_] (.tup [trA u,iv 0]) :=p
    rw [trA_ne (fun e => by rw [e] at hT;exact absurd hT.1 (by decide))] at p
    have lu :=flat_no (zp u)
    have rT :=hT.2.2.rT
    repeat ((first
     |refine plan_as (nthP (nth_ivs1 hiM)) ?_
     |refine plan_as (takP (tak_zp fs h)) ?_
     |refine ko_rT c1 ?_
     |refine ko_sF c1 ?_
     |refine plan_as (pick_t c1) ?_
     |refine bool_true c1 ?_
     |refine ko_sT c2 ?_
     |refine ko_rF c2 ?_
     |refine plan_as (pick_f c2) ?_
     |refine bool_false c2 ?_
     |refine ko_sT c3 ?_
     |refine ko_rF c3 ?_
     |refine plan_as (pick_f c3) ?_
     |refine bool_false c3 ?_
     |refine ko_rT (gd_ff c2) ?_
     |refine ko_sF (gd_ff c2) ?_
     |refine plan_as (pick_t (gd_ff c2)) ?_
     |refine bool_true (gd_ff c2) ?_
     |refine ko_rT (inR_t hiM) ?_
     |refine ko_sF (inR_t hiM) ?_
     |refine plan_as (pick_t (inR_t hiM)) ?_
     |refine bool_true (inR_t hiM) ?_
     |refine ko_rT (inR_t hif) ?_
     |refine ko_sF (inR_t hif) ?_
     |refine plan_as (pick_t (inR_t hif)) ?_
     |refine bool_true (inR_t hif) ?_
     |refine sym_pure hC (pf) ?_
     |refine sym_pure hC (p) ?_
     |refine sym_pure hC (rT) ?_
     |refine zd hS ?_);conv=>whnf)
    exact ⟨(i + 1,[u],.lst [pv (zp u)] 1 (.ch 1),[.chain 1 1 22]),[31],⟨h,by show 1 = i + 1;omega,he,.inr ⟨Nat.succ_pos _,rfl,rfl⟩⟩,by show fs.length - (i + 1) < fs.length - i;omega,(by refine ⟨rfl,rfl,rfl,rfl,rfl,rfl,by decide,?_,?_,?_,by kernel_rfl,?_,?_⟩ <;> repeat' (first | exact ⟨_,rfl,RnV.wk (WkV.refl _) (bz (pv_no _))⟩ | exact ⟨_,rfl,RnV.wk (WkV.refl _) (bz lnM)⟩ | exact bdl_no (ivs_no _) | exact bdl_no (flat_no _) | exact Nat.max_le.2 ⟨Nat.le_of_ble_eq_true rfl,bdl_no (tls_no _)⟩ | exact ⟨_,rfl,RnV.wk (WkV.int hi1) (Nat.zero_le _)⟩ | exact ⟨_,rfl,rnC (j :=0) (by decide) rfl rfl ⟨pv_no _,trivial⟩⟩ | exact zZ | apply And.intro))⟩
   ·obtain rfl:K = 2 :=hK
    conv=>whnf
    refine Or.elim (Classical.em (¬ i < fs.length)) (fun h => ?_) (fun h => ?_)
    ·have c1:decide (Int.ofNat i < ((zp fs).length:Int)) = false :=zF (by rw [hzf];show ¬ (i:Int) < _;omega)
     repeat ((first
      |refine ko_sT c1 ?_
      |refine ko_rF c1 ?_
      |refine plan_as (pick_f c1) ?_
      |refine bool_false c1 ?_
      |refine zd hS ?_);conv=>whnf)
     rw [drop_nil_gq (l :=fs) (by omega),shC] at he
     rw [← he]
     first
      |exact ⟨_,rfl,wk_tl _ _ _⟩
      |omega
    have h :=Classical.not_not.1 h
    have c1:decide (Int.ofNat i < ((zp fs).length:Int)) = true :=zT (by rw [hzf];show (i:Int) < _;omega)
    have hiM:i < M.length :=by omega
    have hi1:IntKind.i64.wrap (Int.ofNat i + 1) = Int.ofNat (i + 1) :=wrapN (m :=i + 1) (by omega)
    rw [drop_gq fs h,drop_gi M hiM,shC] at he
    refine Or.elim (Classical.em (gi M i < 1)) (fun g1 => ?_) (fun g1 => ?_)
    ·have c2:decide (gi M i < 1) = true :=zT g1
     rw [if_neg (by omega)] at he
     repeat ((first
      |refine plan_as (nthP (nth_ivs1 hiM)) ?_
      |refine ko_rT c1 ?_
      |refine ko_sF c1 ?_
      |refine plan_as (pick_t c1) ?_
      |refine bool_true c1 ?_
      |refine ko_rT c2 ?_
      |refine ko_sF c2 ?_
      |refine plan_as (pick_t c2) ?_
      |refine bool_true c2 ?_
      |refine ko_sT (gd_ft c2) ?_
      |refine ko_rF (gd_ft c2) ?_
      |refine plan_as (pick_f (gd_ft c2)) ?_
      |refine bool_false (gd_ft c2) ?_
      |refine ko_rT (inR_t hiM) ?_
      |refine ko_sF (inR_t hiM) ?_
      |refine plan_as (pick_t (inR_t hiM)) ?_
      |refine bool_true (inR_t hiM) ?_
      |refine zd hS ?_);conv=>whnf)
     rw [← he]
     exact ⟨_,rfl,Wk.refl _⟩
    have c2:decide (gi M i < 1) = false :=zF g1
    refine Or.elim (Classical.em (gi M i > Int.ofNat P)) (fun g2 => ?_) (fun g2 => ?_)
    ·have c3:decide (gi M i > Int.ofNat P) = true :=zT g2
     rw [if_neg (by show ¬ (1 ≤ gi M i ∧ gi M i ≤ (P:Int));have g2:gi M i > (P:Int) :=g2;omega)] at he
     repeat ((first
      |refine plan_as (nthP (nth_ivs1 hiM)) ?_
      |refine ko_rT c1 ?_
      |refine ko_sF c1 ?_
      |refine plan_as (pick_t c1) ?_
      |refine bool_true c1 ?_
      |refine ko_sT c2 ?_
      |refine ko_rF c2 ?_
      |refine plan_as (pick_f c2) ?_
      |refine bool_false c2 ?_
      |refine ko_rT c3 ?_
      |refine ko_sF c3 ?_
      |refine plan_as (pick_t c3) ?_
      |refine bool_true c3 ?_
      |refine ko_rT (gd_ff c2) ?_
      |refine ko_sF (gd_ff c2) ?_
      |refine plan_as (pick_t (gd_ff c2)) ?_
      |refine bool_true (gd_ff c2) ?_
      |refine ko_rT (inR_t hiM) ?_
      |refine ko_sF (inR_t hiM) ?_
      |refine plan_as (pick_t (inR_t hiM)) ?_
      |refine bool_true (inR_t hiM) ?_
      |refine zd hS ?_);conv=>whnf)
     rw [← he]
     exact ⟨_,rfl,Wk.refl _⟩
    have c3:decide (gi M i > Int.ofNat P) = false :=zF g2
    have g2:¬ gi M i > (P:Int) :=g2
    rw [if_pos (by omega)] at he
    have hmf :=gq_mem fs h
    have p :=pn (gi M i).toNat (gq fs i) (by omega) (by omega) hmf
    rw [show Int.ofNat (gi M i).toNat = gi M i by show ((gi M i).toNat:Int) = _;omega] at p
    have pf :=pF (gi M i)
    have hif:i < (zp fs).length :=by omega
    have hT :=ht.tv (gi M i).toNat (gq fs i)
    generalize tr (gi M i).toNat (gq fs i) = oT at *
    rcases oT with _ | u
    ·have p:Pure prog 34 [_,_] (.tup [.nils,iv 5]) :=p
     repeat ((first
      |refine plan_as (nthP (nth_ivs1 hiM)) ?_
      |refine plan_as (takP (tak_zp fs h)) ?_
      |refine ko_rT c1 ?_
      |refine ko_sF c1 ?_
      |refine plan_as (pick_t c1) ?_
      |refine bool_true c1 ?_
      |refine ko_sT c2 ?_
      |refine ko_rF c2 ?_
      |refine plan_as (pick_f c2) ?_
      |refine bool_false c2 ?_
      |refine ko_sT c3 ?_
      |refine ko_rF c3 ?_
      |refine plan_as (pick_f c3) ?_
      |refine bool_false c3 ?_
      |refine ko_rT (gd_ff c2) ?_
      |refine ko_sF (gd_ff c2) ?_
      |refine plan_as (pick_t (gd_ff c2)) ?_
      |refine bool_true (gd_ff c2) ?_
      |refine ko_rT (inR_t hiM) ?_
      |refine ko_sF (inR_t hiM) ?_
      |refine plan_as (pick_t (inR_t hiM)) ?_
      |refine bool_true (inR_t hiM) ?_
      |refine ko_rT (inR_t hif) ?_
      |refine ko_sF (inR_t hif) ?_
      |refine plan_as (pick_t (inR_t hif)) ?_
      |refine bool_true (inR_t hif) ?_
      |refine sym_pure hC (pf) ?_
      |refine sym_pure hC (p) ?_
      |refine zd hS ?_);conv=>whnf)
     rw [← he]
     exact ⟨_,rfl,Wk.refl _⟩
    have hT :=hT u (by omega) (by omega) hmf rfl
    have p:Pure prog 34 [_,_] (.tup [trA u,iv 0]) :=p
    rw [trA_ne (fun e => by rw [e] at hT;exact absurd hT.1 (by decide))] at p
    have lu :=flat_no (zp u)
    have rT :=hT.2.2.rT
    repeat ((first
     |refine plan_as (nthP (nth_ivs1 hiM)) ?_
     |refine plan_as (takP (tak_zp fs h)) ?_
     |refine ko_rT c1 ?_
     |refine ko_sF c1 ?_
     |refine plan_as (pick_t c1) ?_
     |refine bool_true c1 ?_
     |refine ko_sT c2 ?_
     |refine ko_rF c2 ?_
     |refine plan_as (pick_f c2) ?_
     |refine bool_false c2 ?_
     |refine ko_sT c3 ?_
     |refine ko_rF c3 ?_
     |refine plan_as (pick_f c3) ?_
     |refine bool_false c3 ?_
     |refine ko_rT (gd_ff c2) ?_
     |refine ko_sF (gd_ff c2) ?_
     |refine plan_as (pick_t (gd_ff c2)) ?_
     |refine bool_true (gd_ff c2) ?_
     |refine ko_rT (inR_t hiM) ?_
     |refine ko_sF (inR_t hiM) ?_
     |refine plan_as (pick_t (inR_t hiM)) ?_
     |refine bool_true (inR_t hiM) ?_
     |refine ko_rT (inR_t hif) ?_
     |refine ko_sF (inR_t hif) ?_
     |refine plan_as (pick_t (inR_t hif)) ?_
     |refine bool_true (inR_t hif) ?_
     |refine sym_pure hC (pf) ?_
     |refine sym_pure hC (p) ?_
     |refine sym_pure hC (rT) ?_
     |refine zd hS ?_);conv=>whnf)
    refine bool_true (zT (show (o.length + (0 + 1)) * 24 ≤ 140737488355328 by omega)) ?_
    conv=>whnf
    refine bool_true (zT (show o.length + (0 + 1) ≤ 9223372036854775807 by omega)) ?_
    conv=>whnf
    refine bool_true (lenIs_tls o) ?_
    conv=>whnf
    refine bool_true (zT rfl) ?_
    conv=>whnf
    exact ⟨(i + 1,o ++ [u],.lst (tls (o ++ [u])) (o ++ [u]).length (.ch 1),[.chain (o ++ [u]).length 1 22]),[1],⟨h,by rw [List.length_append,hlo];rfl,he,.inr ⟨Nat.succ_pos _,rfl,rfl⟩⟩,by show fs.length - (i + 1) < fs.length - i;omega,(by refine ⟨rfl,rfl,rfl,rfl,rfl,rfl,by decide,?_,?_,?_,by kernel_rfl,?_,?_⟩ <;> repeat' (first | exact ⟨_,rfl,RnV.wk (WkV.refl _) (bz (pv_no _))⟩ | exact ⟨_,rfl,RnV.wk (WkV.refl _) (bz lnM)⟩ | exact bdl_no (ivs_no _) | exact bdl_no (flat_no _) | exact Nat.max_le.2 ⟨Nat.le_of_ble_eq_true rfl,bdl_no (tls_no _)⟩ | exact ⟨_,rfl,RnV.wk (WkV.int hi1) (Nat.zero_le _)⟩ | exact ⟨_,rfl,rnT1 (j :=0) (by decide) rfl rfl⟩ | exact app_tc _ _ | exact zZ | apply And.intro))⟩
 exact key N hN.cs rfl
end
end Go.Abs.Seat
