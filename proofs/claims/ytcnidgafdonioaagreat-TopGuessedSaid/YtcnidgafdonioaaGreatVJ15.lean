/-
  The law TopGuessed: all that is as defined.
-/
import Derived.Test.YtcnidgafdonioaaGreatVJ14
import Derived.Test.YtcnidgafdonioaaGreatVE6
namespace Go.Abs.Seat
noncomputable section
open Go Go.Abs Go.Proofs.Tryz
set_option maxRecDepth 100000
set_option maxHeartbeats 40000000
attribute [local irreducible] IntKind.wrap pEq
theorem gF_ff {x:Nat} {c:Bool} (h:c = false):@Bool.rec (fun _ => Bool) (@Bool.rec (fun _ => Bool) true false (x,false).snd) (x,false).snd c = true :=by subst h;rfl
theorem topG_yes (hk:Pure prog 7 [] (.bool true)) {N:List Lk} {H:List Nat} (h:pcN N H) {a l m:Nat} (h1:1 ≤ a) (h2:a ≤ N.length) (hlm:l + m ≤ 5) :
  Pure prog 3 [.agg [nkA N,nl (zl H)],nv a,nv l,nv m] (.bool true) :=by
 have lN :=lks_no (cL N)
 have lH :=ivs_no (zl H)
 have hA :=h.ok.all a a (Nat.le_refl _) h2
 have tv :=tvN h.ok h1 h2
 have hL:1 ≤ (tr N a).length ∧ (tr N a).length ≤ 3 :=tv.k1
 obtain ⟨sp,nt,G,lo,hi,W,gs⟩ :=gsF_of hA hL hlm
 have eR:redF (xP (tr N a)) (yP (tr N a)) = rdA N a :=rfl
 rw [eR] at gs
 have pT :=sTrain_yes h h1 h2
 have pR :=sRates_yes h
 have pQ :=tv.rT
 have rb :=tv.bx
 have rc :=tv.by_
 have hl5 :=h.l5
 have tR :=tak_zp (rdL N (N.length + 1)) (i :=a) (by rw [rdL_len];omega)
 rw [rdL_get N (show a < N.length + 1 by omega)] at tR
 have hR:(zp (rdL N (N.length + 1))).length = N.length + 1 :=by rw [zp_len,rdL_len]
 have lR :=flat_no (zp (rdL N (N.length + 1)))
 have lS :=bls_no (snL N (N.length + 1))
 obtain ⟨Sx,hS0⟩ : ∃ Sx,bls (snL N (N.length + 1)) = Sx :=⟨_,rfl⟩
 rw [hS0] at lS
 have pR:Pure prog 9 [.agg [nkA N,nl (zl H)]] (.tup [pv (zp (rdL N (N.length + 1))),.lst Sx (snL N (N.length + 1)).length .no,iv 0]) :=by rw [← hS0];exact pR
 obtain ⟨R,hR0⟩ : ∃ R,zp (rdL N (N.length + 1)) = R :=⟨_,rfl⟩
 rw [hR0] at pR tR hR lR
 obtain ⟨L,hL0⟩ : ∃ L,tr N a = L :=⟨_,rfl⟩
 rw [hL0] at pT pQ gs
 obtain ⟨r,hr0⟩ : ∃ r,rdA N a = r :=⟨_,rfl⟩
 rw [hr0] at tR gs rb rc
 have lL :=flat_no (zp L)
 have pP :=p20_pure (x :=nkA N) (h :=nl (zl H)) (L :=cL N) (M :=zl H) (.inr (nkA_eq N).symm) (.inr rfl)
 rw [decide_eq_true h.pc] at pP
 have pA :=rArbor_pure (cL N) (zl H) (Int.ofNat a)
 rw [nkA_eq,cL_len,decide_eq_true (show 1 ≤ Int.ofNat a ∧ Int.ofNat a ≤ (N.length:Int) from ⟨Int.ofNat_le.2 h1,Int.ofNat_le.2 h2⟩)] at pA
 have w5:IntKind.i64.wrap (5 - Int.ofNat l) = 5 - (l:Int) :=wrapI (by show _ ≤ 5 - (l:Int);omega) (by show 5 - (l:Int) < _;omega)
 have eA:decide (Int.ofNat l < 0) = false :=decide_eq_false (show ¬ (l:Int) < 0 by omega)
 have eB:decide (Int.ofNat m < 0) = false :=decide_eq_false (show ¬ (m:Int) < 0 by omega)
 have eC:decide (Int.ofNat l > 5) = false :=decide_eq_false (show ¬ (l:Int) > 5 by omega)
 have eD:decide (Int.ofNat m > IntKind.i64.wrap (5 - Int.ofNat l)) = false :=decide_eq_false (by rw [w5];show ¬ (m:Int) > 5 - (l:Int);omega)
 have eE:(((R.length:Nat):Int) != IntKind.i64.wrap ((N.length:Int) + 1)) = false :=by
  rw [bne_eq_false_iff_eq,hR];exact (wrapN (m :=N.length + 1) (by omega)).symm
 have iR:inR (Int.ofNat a) R.length = true :=inR_t (by omega)
 have pBg :=big20_pure rb rc
 have lS2 :=flat_no (zp sp)
 have lN2 :=ntE_no 0 nt
 have lK :=flat_no (zp (knL G sp.length))
 have lT :=ivs_no (zl (teL L))
 have kl:(zp (knL G sp.length)).length = sp.length :=by rw [zp_len,knL_len]
 have tl:(zl (teL L)).length = sp.length :=by rw [zl_len];exact gs.ln
 have eK:((((zp (knL G sp.length)).length:Nat):Int) != (((zl (teL L)).length:Nat):Int)) = false :=by
  rw [bne_eq_false_iff_eq,kl,tl]
 rcases gs.hW with ⟨hW,hE2⟩ | ⟨hW,hE2⟩
 ·rw [hW] at gs
  refine pure_sym hE rfl (by repeat' (first | exact trivial | assumption | exact flat_no _ | exact (fun _ h => nomatch h) | apply And.intro)) (by repeat' (first | exact trivial | assumption | exact flat_no _ | exact (fun _ h => nomatch h) | apply And.intro)) fun S q pc hS hq hC hE => ?_
  conv => whnf
  repeat ((first
   |refine ko_sT (gd_tf eA) ?_
   |refine ko_rF (gd_tf eA) ?_
   |refine plan_as (pick_f (gd_tf eA)) ?_
   |refine bool_false (gd_tf eA) ?_
   |refine ko_sT (gd_tf eB) ?_
   |refine ko_rF (gd_tf eB) ?_
   |refine plan_as (pick_f (gd_tf eB)) ?_
   |refine bool_false (gd_tf eB) ?_
   |refine ko_sT (gd_tf eC) ?_
   |refine ko_rF (gd_tf eC) ?_
   |refine plan_as (pick_f (gd_tf eC)) ?_
   |refine bool_false (gd_tf eC) ?_
   |refine ko_sT (gd_tf eD) ?_
   |refine ko_rF (gd_tf eD) ?_
   |refine plan_as (pick_f (gd_tf eD)) ?_
   |refine bool_false (gd_tf eD) ?_
   |refine ko_sT eA ?_
   |refine ko_rF eA ?_
   |refine plan_as (pick_f eA) ?_
   |refine bool_false eA ?_
   |refine ko_sT eB ?_
   |refine ko_rF eB ?_
   |refine plan_as (pick_f eB) ?_
   |refine bool_false eB ?_
   |refine ko_sT eC ?_
   |refine ko_rF eC ?_
   |refine plan_as (pick_f eC) ?_
   |refine bool_false eC ?_
   |refine ko_sT eD ?_
   |refine ko_rF eD ?_
   |refine plan_as (pick_f eD) ?_
   |refine bool_false eD ?_
   |refine sym_pure hC (pP) ?_
   |refine sym_pure hC (pA) ?_
   |refine sym_drawn hS (by kernel_rfl) ?_);conv => whnf)
  refine sym_pure hC (pT) ?_
  conv => whnf
  refine sym_pure hC (pR) ?_
  conv => whnf
  repeat ((first
   |refine plan_as (takP tR) ?_
   |refine ko_sT (gd_tf eE) ?_
   |refine ko_rF (gd_tf eE) ?_
   |refine plan_as (pick_f (gd_tf eE)) ?_
   |refine bool_false (gd_tf eE) ?_
   |refine ko_sT eE ?_
   |refine ko_rF eE ?_
   |refine plan_as (pick_f eE) ?_
   |refine bool_false eE ?_
   |refine ko_rT (inR_t (show a < R.length by omega)) ?_
   |refine ko_sF (inR_t (show a < R.length by omega)) ?_
   |refine plan_as (pick_t (inR_t (show a < R.length by omega))) ?_
   |refine bool_true (inR_t (show a < R.length by omega)) ?_
   |refine ko_rT iR ?_
   |refine ko_sF iR ?_
   |refine plan_as (pick_t iR) ?_
   |refine bool_true iR ?_
   |refine sym_pure hC (pQ) ?_
   |refine sym_pure hC (pBg) ?_
   |refine sym_drawn hS (by kernel_rfl) ?_);conv => whnf)
  refine sym_pure hC (gs.pF) ?_
  conv => whnf
  refine sym_pure hC (gs.pB) ?_
  conv => whnf
  refine sym_pure hC (gs.pK) ?_
  conv => whnf
  refine sym_pure hC (gs.pT) ?_
  conv => whnf
  refine sym_pure hC (gs.pE) ?_
  conv => whnf
  repeat ((first
   |refine ko_sT eK ?_
   |refine ko_rF eK ?_
   |refine plan_as (pick_f eK) ?_
   |refine bool_false eK ?_
   |refine ko_sT (gd_tf eK) ?_
   |refine ko_rF (gd_tf eK) ?_
   |refine plan_as (pick_f (gd_tf eK)) ?_
   |refine bool_false (gd_tf eK) ?_
   |refine sym_pure hC (gs.pL) ?_
   |refine sym_pure hC (gs.pH) ?_
   |refine sym_drawn hS (by kernel_rfl) ?_);conv => whnf)
  refine sym_loop hE hS (A :=Nat) [1,11,14,17,19,20,22] (fun k => [(23,nv k)]) (fun _ => []) (fun k => k ≤ sp.length) (fun k => sp.length - k) 0 rfl rfl (by refine ⟨rfl,rfl,rfl,rfl,?_,?_⟩ <;> repeat' (first | exact trivial | exact rfl | exact Nat.zero_le _ | exact bdl_no lN | exact bdl_no lH | exact bdl_no lR | exact bdl_no lS2 | exact bdl_no lN2 | exact bdl_no lK | exact bdl_no lT | exact Nat.le_of_ble_eq_true rfl | exact bdl_no (by assumption) | exact bdl_no (flat_no _) | exact bdl_no (ivs_no _) | exact Nat.max_le.2 ⟨Nat.le_of_ble_eq_true rfl,bdl_no (ivs_no _)⟩ | apply And.intro)) (Nat.zero_le _) ?_
  intro k hk0
  have hk0:k ≤ sp.length :=hk0
  conv => whnf
  by_cases hk2:k < sp.length
  ·have hk1:IntKind.i64.wrap (Int.ofNat k + 1) = Int.ofNat (k + 1) :=wrapN (m :=k + 1) (by have :=gs.l6;omega)
   have nT:nth (ivs (zl (teL L))) (k * 1) = some (nv (gn (teL L) k)) :=by rw [nth_ivs1 (by omega),gi_zl _ (by rw [gs.ln];exact hk2)]
   have nA :=nth_zp0 (knL G sp.length) k (by rw [knL_len];exact hk2)
   have nB :=nth_zp1 (knL G sp.length) k (by rw [knL_len];exact hk2)
   have b1 :=gs.kn k hk2
   have d1:decide (Int.ofNat (gn (teL L) k) < Int.ofNat (gq (knL G sp.length) k).1) = false :=decide_eq_false fun z => Nat.not_lt.2 b1.1 (Int.ofNat_lt.1 z)
   have d2:decide (Int.ofNat (gn (teL L) k) > Int.ofNat (gq (knL G sp.length) k).2) = false :=decide_eq_false fun z => Nat.not_lt.2 b1.2 (Int.ofNat_lt.1 z)
   refine bool_true (ltN_t (show k < (zl (teL L)).length by omega)) ?_
   conv => whnf
   refine bool_true (inR_t (show k < (zl (teL L)).length by omega)) ?_
   conv => whnf
   refine plan_as (nthP (nT)) ?_
   conv => whnf
   refine bool_true (inR_t (show k < (zp (knL G sp.length)).length by omega)) ?_
   conv => whnf
   refine plan_as (nthP (nA)) ?_
   conv => whnf
   refine bool_true (gF_ff d1) ?_
   conv => whnf
   refine bool_true (gF_ff d1) ?_
   conv => whnf
   refine bool_true (gF_ff d1) ?_
   conv => whnf
   refine bool_true (inR_t (show k < (zl (teL L)).length by omega)) ?_
   conv => whnf
   refine bool_true (gF_ff d1) ?_
   conv => whnf
   refine plan_as (nthP (nT)) ?_
   conv => whnf
   refine bool_true (gF_ff d1) ?_
   conv => whnf
   refine bool_true (gF_ff d1) ?_
   conv => whnf
   refine bool_true (gF_ff d1) ?_
   conv => whnf
   refine bool_true (inR_t (show k < (zp (knL G sp.length)).length by omega)) ?_
   conv => whnf
   refine bool_true (gF_ff d1) ?_
   conv => whnf
   refine bool_true (gF_ff d1) ?_
   conv => whnf
   refine plan_as (nthP (nB)) ?_
   conv => whnf
   refine bool_true (gF_ff d1) ?_
   conv => whnf
   refine plan_as (pick_f (d1)) ?_
   conv => whnf
   refine sym_drawn hS (by kernel_rfl) ?_
   conv => whnf
   refine bool_false (d2) ?_
   conv => whnf
   exact ⟨k + 1,hk2,by show sp.length - (k + 1) < sp.length - k;omega,(by refine ⟨rfl,rfl,rfl,rfl,?_,?_⟩ <;> repeat' (first | exact trivial | exact rfl | exact Nat.zero_le _ | exact congrArg (fun z => some (AV.int .i64 z)) hk1 | exact bdl_no lN | exact bdl_no lH | exact bdl_no lR | exact bdl_no lS2 | exact bdl_no lN2 | exact bdl_no lK | exact bdl_no lT | exact Nat.le_of_ble_eq_true rfl | exact bdl_no (by assumption) | exact bdl_no (flat_no _) | exact bdl_no (ivs_no _) | exact Nat.max_le.2 ⟨Nat.le_of_ble_eq_true rfl,bdl_no (ivs_no _)⟩ | apply And.intro))⟩
  ·refine bool_false (ltN_f (show ¬ k < (zl (teL L)).length by omega)) ?_
   conv => whnf
   refine bool_true (iR) ?_
   conv => whnf
   refine plan_as (takP tR) ?_
   conv => whnf
   refine sym_pure hC (gs.p1) ?_
   conv => whnf
   refine bool_true (iR) ?_
   conv => whnf
   refine plan_as (takP tR) ?_
   conv => whnf
   refine sym_pure hC (gs.p2) ?_
   conv => whnf
   refine sym_drawn hS (by kernel_rfl) ?_
   conv => whnf
   refine bool_true (iR) ?_
   conv => whnf
   refine plan_as (takP tR) ?_
   conv => whnf
   have pFr :=rFraction_pure (Int.ofNat r.1) (Int.ofNat r.2)
   by_cases hF:isF (Int.ofNat r.1) (Int.ofNat r.2)
   ·rw [decide_eq_true hF] at pFr
    have hr50:r.1 ≤ 50000 ∧ r.2 ≤ 50000 :=⟨Int.ofNat_le.1 hF.1.2,Int.ofNat_le.1 hF.2.2⟩
    have pS :=gs.pS hr50
    refine sym_pure hC (pFr) ?_
    conv => whnf
    refine bool_true (iR) ?_
    conv => whnf
    refine plan_as (takP tR) ?_
    conv => whnf
    refine sym_pure hC (pS) ?_
    conv => whnf
    refine sym_drawn hS (by kernel_rfl) ?_
    conv => whnf
    refine sym_eq hq true (by rw [hE2];exact eqQ_same (.inl rfl) _ _ _) ?_
    conv => whnf
    refine sym_eq hq true (eqBool_same _ _) ?_
    conv => whnf
    refine sym_pure hC (hk) ?_
    conv => whnf
    exact ⟨_,rfl,Wk.refl _⟩
   ·rw [decide_eq_false hF] at pFr
    refine sym_pure hC (pFr) ?_
    conv => whnf
    refine sym_pure hC (hk) ?_
    conv => whnf
    exact ⟨_,rfl,Wk.refl _⟩
 ·rw [hW] at gs
  have hE3:¬ (Int.ofNat lo.1 = Int.ofNat hi.1 ∧ Int.ofNat lo.2 = Int.ofNat hi.2) :=fun z => hE2 (Prod.ext (Int.ofNat.inj z.1) (Int.ofNat.inj z.2))
  refine pure_sym hE rfl (by repeat' (first | exact trivial | assumption | exact flat_no _ | exact (fun _ h => nomatch h) | apply And.intro)) (by repeat' (first | exact trivial | assumption | exact flat_no _ | exact (fun _ h => nomatch h) | apply And.intro)) fun S q pc hS hq hC hE => ?_
  conv => whnf
  repeat ((first
   |refine ko_sT (gd_tf eA) ?_
   |refine ko_rF (gd_tf eA) ?_
   |refine plan_as (pick_f (gd_tf eA)) ?_
   |refine bool_false (gd_tf eA) ?_
   |refine ko_sT (gd_tf eB) ?_
   |refine ko_rF (gd_tf eB) ?_
   |refine plan_as (pick_f (gd_tf eB)) ?_
   |refine bool_false (gd_tf eB) ?_
   |refine ko_sT (gd_tf eC) ?_
   |refine ko_rF (gd_tf eC) ?_
   |refine plan_as (pick_f (gd_tf eC)) ?_
   |refine bool_false (gd_tf eC) ?_
   |refine ko_sT (gd_tf eD) ?_
   |refine ko_rF (gd_tf eD) ?_
   |refine plan_as (pick_f (gd_tf eD)) ?_
   |refine bool_false (gd_tf eD) ?_
   |refine ko_sT eA ?_
   |refine ko_rF eA ?_
   |refine plan_as (pick_f eA) ?_
   |refine bool_false eA ?_
   |refine ko_sT eB ?_
   |refine ko_rF eB ?_
   |refine plan_as (pick_f eB) ?_
   |refine bool_false eB ?_
   |refine ko_sT eC ?_
   |refine ko_rF eC ?_
   |refine plan_as (pick_f eC) ?_
   |refine bool_false eC ?_
   |refine ko_sT eD ?_
   |refine ko_rF eD ?_
   |refine plan_as (pick_f eD) ?_
   |refine bool_false eD ?_
   |refine sym_pure hC (pP) ?_
   |refine sym_pure hC (pA) ?_
   |refine sym_drawn hS (by kernel_rfl) ?_);conv => whnf)
  refine sym_pure hC (pT) ?_
  conv => whnf
  refine sym_pure hC (pR) ?_
  conv => whnf
  repeat ((first
   |refine plan_as (takP tR) ?_
   |refine ko_sT (gd_tf eE) ?_
   |refine ko_rF (gd_tf eE) ?_
   |refine plan_as (pick_f (gd_tf eE)) ?_
   |refine bool_false (gd_tf eE) ?_
   |refine ko_sT eE ?_
   |refine ko_rF eE ?_
   |refine plan_as (pick_f eE) ?_
   |refine bool_false eE ?_
   |refine ko_rT (inR_t (show a < R.length by omega)) ?_
   |refine ko_sF (inR_t (show a < R.length by omega)) ?_
   |refine plan_as (pick_t (inR_t (show a < R.length by omega))) ?_
   |refine bool_true (inR_t (show a < R.length by omega)) ?_
   |refine ko_rT iR ?_
   |refine ko_sF iR ?_
   |refine plan_as (pick_t iR) ?_
   |refine bool_true iR ?_
   |refine sym_pure hC (pQ) ?_
   |refine sym_pure hC (pBg) ?_
   |refine sym_drawn hS (by kernel_rfl) ?_);conv => whnf)
  refine sym_pure hC (gs.pF) ?_
  conv => whnf
  refine sym_pure hC (gs.pB) ?_
  conv => whnf
  refine sym_pure hC (gs.pK) ?_
  conv => whnf
  refine sym_pure hC (gs.pT) ?_
  conv => whnf
  refine sym_pure hC (gs.pE) ?_
  conv => whnf
  repeat ((first
   |refine ko_sT eK ?_
   |refine ko_rF eK ?_
   |refine plan_as (pick_f eK) ?_
   |refine bool_false eK ?_
   |refine ko_sT (gd_tf eK) ?_
   |refine ko_rF (gd_tf eK) ?_
   |refine plan_as (pick_f (gd_tf eK)) ?_
   |refine bool_false (gd_tf eK) ?_
   |refine sym_pure hC (gs.pL) ?_
   |refine sym_pure hC (gs.pH) ?_
   |refine sym_drawn hS (by kernel_rfl) ?_);conv => whnf)
  refine sym_loop hE hS (A :=Nat) [1,11,14,17,19,20,22] (fun k => [(23,nv k)]) (fun _ => []) (fun k => k ≤ sp.length) (fun k => sp.length - k) 0 rfl rfl (by refine ⟨rfl,rfl,rfl,rfl,?_,?_⟩ <;> repeat' (first | exact trivial | exact rfl | exact Nat.zero_le _ | exact bdl_no lN | exact bdl_no lH | exact bdl_no lR | exact bdl_no lS2 | exact bdl_no lN2 | exact bdl_no lK | exact bdl_no lT | exact Nat.le_of_ble_eq_true rfl | exact bdl_no (by assumption) | exact bdl_no (flat_no _) | exact bdl_no (ivs_no _) | exact Nat.max_le.2 ⟨Nat.le_of_ble_eq_true rfl,bdl_no (ivs_no _)⟩ | apply And.intro)) (Nat.zero_le _) ?_
  intro k hk0
  have hk0:k ≤ sp.length :=hk0
  conv => whnf
  by_cases hk2:k < sp.length
  ·have hk1:IntKind.i64.wrap (Int.ofNat k + 1) = Int.ofNat (k + 1) :=wrapN (m :=k + 1) (by have :=gs.l6;omega)
   have nT:nth (ivs (zl (teL L))) (k * 1) = some (nv (gn (teL L) k)) :=by rw [nth_ivs1 (by omega),gi_zl _ (by rw [gs.ln];exact hk2)]
   have nA :=nth_zp0 (knL G sp.length) k (by rw [knL_len];exact hk2)
   have nB :=nth_zp1 (knL G sp.length) k (by rw [knL_len];exact hk2)
   have b1 :=gs.kn k hk2
   have d1:decide (Int.ofNat (gn (teL L) k) < Int.ofNat (gq (knL G sp.length) k).1) = false :=decide_eq_false fun z => Nat.not_lt.2 b1.1 (Int.ofNat_lt.1 z)
   have d2:decide (Int.ofNat (gn (teL L) k) > Int.ofNat (gq (knL G sp.length) k).2) = false :=decide_eq_false fun z => Nat.not_lt.2 b1.2 (Int.ofNat_lt.1 z)
   refine bool_true (ltN_t (show k < (zl (teL L)).length by omega)) ?_
   conv => whnf
   refine bool_true (inR_t (show k < (zl (teL L)).length by omega)) ?_
   conv => whnf
   refine plan_as (nthP (nT)) ?_
   conv => whnf
   refine bool_true (inR_t (show k < (zp (knL G sp.length)).length by omega)) ?_
   conv => whnf
   refine plan_as (nthP (nA)) ?_
   conv => whnf
   refine bool_true (gF_ff d1) ?_
   conv => whnf
   refine bool_true (gF_ff d1) ?_
   conv => whnf
   refine bool_true (gF_ff d1) ?_
   conv => whnf
   refine bool_true (inR_t (show k < (zl (teL L)).length by omega)) ?_
   conv => whnf
   refine bool_true (gF_ff d1) ?_
   conv => whnf
   refine plan_as (nthP (nT)) ?_
   conv => whnf
   refine bool_true (gF_ff d1) ?_
   conv => whnf
   refine bool_true (gF_ff d1) ?_
   conv => whnf
   refine bool_true (gF_ff d1) ?_
   conv => whnf
   refine bool_true (inR_t (show k < (zp (knL G sp.length)).length by omega)) ?_
   conv => whnf
   refine bool_true (gF_ff d1) ?_
   conv => whnf
   refine bool_true (gF_ff d1) ?_
   conv => whnf
   refine plan_as (nthP (nB)) ?_
   conv => whnf
   refine bool_true (gF_ff d1) ?_
   conv => whnf
   refine plan_as (pick_f (d1)) ?_
   conv => whnf
   refine sym_drawn hS (by kernel_rfl) ?_
   conv => whnf
   refine bool_false (d2) ?_
   conv => whnf
   exact ⟨k + 1,hk2,by show sp.length - (k + 1) < sp.length - k;omega,(by refine ⟨rfl,rfl,rfl,rfl,?_,?_⟩ <;> repeat' (first | exact trivial | exact rfl | exact Nat.zero_le _ | exact congrArg (fun z => some (AV.int .i64 z)) hk1 | exact bdl_no lN | exact bdl_no lH | exact bdl_no lR | exact bdl_no lS2 | exact bdl_no lN2 | exact bdl_no lK | exact bdl_no lT | exact Nat.le_of_ble_eq_true rfl | exact bdl_no (by assumption) | exact bdl_no (flat_no _) | exact bdl_no (ivs_no _) | exact Nat.max_le.2 ⟨Nat.le_of_ble_eq_true rfl,bdl_no (ivs_no _)⟩ | apply And.intro))⟩
  ·refine bool_false (ltN_f (show ¬ k < (zl (teL L)).length by omega)) ?_
   conv => whnf
   refine bool_true (iR) ?_
   conv => whnf
   refine plan_as (takP tR) ?_
   conv => whnf
   refine sym_pure hC (gs.p1) ?_
   conv => whnf
   refine bool_true (iR) ?_
   conv => whnf
   refine plan_as (takP tR) ?_
   conv => whnf
   refine sym_pure hC (gs.p2) ?_
   conv => whnf
   refine sym_drawn hS (by kernel_rfl) ?_
   conv => whnf
   refine bool_true (iR) ?_
   conv => whnf
   refine plan_as (takP tR) ?_
   conv => whnf
   have pFr :=rFraction_pure (Int.ofNat r.1) (Int.ofNat r.2)
   by_cases hF:isF (Int.ofNat r.1) (Int.ofNat r.2)
   ·rw [decide_eq_true hF] at pFr
    have hr50:r.1 ≤ 50000 ∧ r.2 ≤ 50000 :=⟨Int.ofNat_le.1 hF.1.2,Int.ofNat_le.1 hF.2.2⟩
    have pS :=gs.pS hr50
    refine sym_pure hC (pFr) ?_
    conv => whnf
    refine bool_true (iR) ?_
    conv => whnf
    refine plan_as (takP tR) ?_
    conv => whnf
    refine sym_pure hC (pS) ?_
    conv => whnf
    refine sym_drawn hS (by kernel_rfl) ?_
    conv => whnf
    refine sym_eq hq false (eqQ_ne (.inl rfl) _ _ _ _ _ hE3) ?_
    conv => whnf
    refine sym_eq hq true (eqBool_same _ _) ?_
    conv => whnf
    refine sym_pure hC (hk) ?_
    conv => whnf
    exact ⟨_,rfl,Wk.refl _⟩
   ·rw [decide_eq_false hF] at pFr
    refine sym_pure hC (pFr) ?_
    conv => whnf
    refine sym_pure hC (hk) ?_
    conv => whnf
    exact ⟨_,rfl,Wk.refl _⟩
theorem topG_no (hk:Pure prog 7 [] (.bool true)) {N:List Lk} {H:List Nat} (h:pcN N H) (a l m:Int) (hn:¬ ((1 ≤ a ∧ a ≤ (N.length:Int)) ∧ 0 ≤ l ∧ 0 ≤ m ∧ l ≤ 5 ∧ m ≤ 5 - l)) :
  Pure prog 3 [.agg [nkA N,nl (zl H)],iv a,iv l,iv m] (.bool true) :=by
 have lN :=lks_no (cL N)
 have lH :=ivs_no (zl H)
 have pP :=p20_pure (x :=nkA N) (h :=nl (zl H)) (L :=cL N) (M :=zl H) (.inr (nkA_eq N).symm) (.inr rfl)
 rw [decide_eq_true h.pc] at pP
 have pA :=rArbor_pure (cL N) (zl H) a
 rw [nkA_eq,cL_len] at pA
 by_cases hA:1 ≤ a ∧ a ≤ (N.length:Int)
 ·rw [decide_eq_true hA] at pA
  by_cases c1:l < 0
  ·have eA:decide (l < 0) = true :=decide_eq_true c1
   refine pure_sym hE rfl (by repeat' (first | exact trivial | assumption | exact flat_no _ | exact (fun _ h => nomatch h) | apply And.intro)) (by repeat' (first | exact trivial | assumption | exact flat_no _ | exact (fun _ h => nomatch h) | apply And.intro)) fun S q pc hS hq hC hE => ?_
   conv => whnf
   repeat ((first
    |refine ko_rT (gd_tt eA) ?_
    |refine ko_sF (gd_tt eA) ?_
    |refine plan_as (pick_t (gd_tt eA)) ?_
    |refine bool_true (gd_tt eA) ?_
    |refine ko_rT eA ?_
    |refine ko_sF eA ?_
    |refine plan_as (pick_t eA) ?_
    |refine bool_true eA ?_
    |refine sym_pure hC (pP) ?_
    |refine sym_pure hC (pA) ?_
    |refine sym_drawn hS (by kernel_rfl) ?_);conv => whnf)
   refine sym_pure hC (hk) ?_
   conv => whnf
   exact ⟨_,rfl,Wk.refl _⟩
  ·have eA:decide (l < 0) = false :=decide_eq_false c1
   by_cases c2:m < 0
   ·have eB:decide (m < 0) = true :=decide_eq_true c2
    refine pure_sym hE rfl (by repeat' (first | exact trivial | assumption | exact flat_no _ | exact (fun _ h => nomatch h) | apply And.intro)) (by repeat' (first | exact trivial | assumption | exact flat_no _ | exact (fun _ h => nomatch h) | apply And.intro)) fun S q pc hS hq hC hE => ?_
    conv => whnf
    repeat ((first
     |refine ko_sT (gd_tf eA) ?_
     |refine ko_rF (gd_tf eA) ?_
     |refine plan_as (pick_f (gd_tf eA)) ?_
     |refine bool_false (gd_tf eA) ?_
     |refine ko_sT eA ?_
     |refine ko_rF eA ?_
     |refine plan_as (pick_f eA) ?_
     |refine bool_false eA ?_
     |refine ko_rT (gd_tt eB) ?_
     |refine ko_sF (gd_tt eB) ?_
     |refine plan_as (pick_t (gd_tt eB)) ?_
     |refine bool_true (gd_tt eB) ?_
     |refine ko_rT eB ?_
     |refine ko_sF eB ?_
     |refine plan_as (pick_t eB) ?_
     |refine bool_true eB ?_
     |refine sym_pure hC (pP) ?_
     |refine sym_pure hC (pA) ?_
     |refine sym_drawn hS (by kernel_rfl) ?_);conv => whnf)
    refine sym_pure hC (hk) ?_
    conv => whnf
    exact ⟨_,rfl,Wk.refl _⟩
   ·have eB:decide (m < 0) = false :=decide_eq_false c2
    by_cases c3:l > 5
    ·have eC:decide (l > 5) = true :=decide_eq_true c3
     refine pure_sym hE rfl (by repeat' (first | exact trivial | assumption | exact flat_no _ | exact (fun _ h => nomatch h) | apply And.intro)) (by repeat' (first | exact trivial | assumption | exact flat_no _ | exact (fun _ h => nomatch h) | apply And.intro)) fun S q pc hS hq hC hE => ?_
     conv => whnf
     repeat ((first
      |refine ko_sT (gd_tf eA) ?_
      |refine ko_rF (gd_tf eA) ?_
      |refine plan_as (pick_f (gd_tf eA)) ?_
      |refine bool_false (gd_tf eA) ?_
      |refine ko_sT eA ?_
      |refine ko_rF eA ?_
      |refine plan_as (pick_f eA) ?_
      |refine bool_false eA ?_
      |refine ko_sT (gd_tf eB) ?_
      |refine ko_rF (gd_tf eB) ?_
      |refine plan_as (pick_f (gd_tf eB)) ?_
      |refine bool_false (gd_tf eB) ?_
      |refine ko_sT eB ?_
      |refine ko_rF eB ?_
      |refine plan_as (pick_f eB) ?_
      |refine bool_false eB ?_
      |refine ko_rT (gd_tt eC) ?_
      |refine ko_sF (gd_tt eC) ?_
      |refine plan_as (pick_t (gd_tt eC)) ?_
      |refine bool_true (gd_tt eC) ?_
      |refine ko_rT eC ?_
      |refine ko_sF eC ?_
      |refine plan_as (pick_t eC) ?_
      |refine bool_true eC ?_
      |refine sym_pure hC (pP) ?_
      |refine sym_pure hC (pA) ?_
      |refine sym_drawn hS (by kernel_rfl) ?_);conv => whnf)
     refine sym_pure hC (hk) ?_
     conv => whnf
     exact ⟨_,rfl,Wk.refl _⟩
    ·have eC:decide (l > 5) = false :=decide_eq_false c3
     have w5:IntKind.i64.wrap (5 - l) = 5 - l :=wrapI (by omega) (by omega)
     have eD:decide (m > IntKind.i64.wrap (5 - l)) = true :=decide_eq_true (by rw [w5];omega)
     refine pure_sym hE rfl (by repeat' (first | exact trivial | assumption | exact flat_no _ | exact (fun _ h => nomatch h) | apply And.intro)) (by repeat' (first | exact trivial | assumption | exact flat_no _ | exact (fun _ h => nomatch h) | apply And.intro)) fun S q pc hS hq hC hE => ?_
     conv => whnf
     repeat ((first
      |refine ko_sT (gd_tf eA) ?_
      |refine ko_rF (gd_tf eA) ?_
      |refine plan_as (pick_f (gd_tf eA)) ?_
      |refine bool_false (gd_tf eA) ?_
      |refine ko_sT eA ?_
      |refine ko_rF eA ?_
      |refine plan_as (pick_f eA) ?_
      |refine bool_false eA ?_
      |refine ko_sT (gd_tf eB) ?_
      |refine ko_rF (gd_tf eB) ?_
      |refine plan_as (pick_f (gd_tf eB)) ?_
      |refine bool_false (gd_tf eB) ?_
      |refine ko_sT eB ?_
      |refine ko_rF eB ?_
      |refine plan_as (pick_f eB) ?_
      |refine bool_false eB ?_
      |refine ko_sT (gd_tf eC) ?_
      |refine ko_rF (gd_tf eC) ?_
      |refine plan_as (pick_f (gd_tf eC)) ?_
      |refine bool_false (gd_tf eC) ?_
      |refine ko_sT eC ?_
      |refine ko_rF eC ?_
      |refine plan_as (pick_f eC) ?_
      |refine bool_false eC ?_
      |refine ko_rT eD ?_
      |refine ko_sF eD ?_
      |refine plan_as (pick_t eD) ?_
      |refine bool_true eD ?_
      |refine sym_pure hC (pP) ?_
      |refine sym_pure hC (pA) ?_
      |refine sym_drawn hS (by kernel_rfl) ?_);conv => whnf)
     refine sym_pure hC (hk) ?_
     conv => whnf
     exact ⟨_,rfl,Wk.refl _⟩
 ·rw [decide_eq_false hA] at pA
  refine pure_sym hE rfl (by repeat' (first | exact trivial | assumption | exact flat_no _ | exact (fun _ h => nomatch h) | apply And.intro)) (by repeat' (first | exact trivial | assumption | exact flat_no _ | exact (fun _ h => nomatch h) | apply And.intro)) fun S q pc hS hq hC hE => ?_
  conv => whnf
  repeat ((first
   |refine ko_rT pA ?_
   |refine ko_sF pA ?_
   |refine plan_as (pick_t pA) ?_
   |refine bool_true pA ?_
   |refine ko_sT pA ?_
   |refine ko_rF pA ?_
   |refine plan_as (pick_f pA) ?_
   |refine bool_false pA ?_
   |refine sym_pure hC (pP) ?_
   |refine sym_pure hC (pA) ?_
   |refine sym_drawn hS (by kernel_rfl) ?_);conv => whnf)
  refine sym_pure hC (hk) ?_
  conv => whnf
  exact ⟨_,rfl,Wk.refl _⟩
theorem topGuessed (hk:Pure prog 7 [] (.bool true)) {x h:AV} {L:List LkI} {M:List Int} (hx:LL x L) (hh:IL h M) (a l m:Int) :
  Pure prog 3 [.agg [x,h],iv a,iv l,iv m] (.bool true) :=by
 by_cases hp:pcOk L M
 ·obtain ⟨N,H,rfl,rfl,hN⟩ :=pcN_of hp
  have e1:x = nkA N :=by
   rcases hx with ⟨_,e⟩ | e
   ·have :=hN.l1;rw [← cL_len,e] at this;exact absurd this (by decide)
   ·rw [e,nkA_eq]
  have e2:h = nl (zl H) :=by
   rcases hh with ⟨_,e⟩ | e
   ·have :=hN.h1;rw [← zl_len,e] at this;exact absurd this (by decide)
   ·exact e
  subst e1 e2
  by_cases c:(1 ≤ a ∧ a ≤ (N.length:Int)) ∧ 0 ≤ l ∧ 0 ≤ m ∧ l ≤ 5 ∧ m ≤ 5 - l
  ·obtain ⟨a',rfl⟩ : ∃ n:Nat,a = Int.ofNat n :=⟨a.toNat,(toN (by omega)).symm⟩
   obtain ⟨l',rfl⟩ : ∃ n:Nat,l = Int.ofNat n :=⟨l.toNat,(toN (by omega)).symm⟩
   obtain ⟨m',rfl⟩ : ∃ n:Nat,m = Int.ofNat n :=⟨m.toNat,(toN (by omega)).symm⟩
   have c1:(m':Int) ≤ 5 - (l':Int) :=c.2.2.2.2
   exact topG_yes hk hN (Int.ofNat_le.1 c.1.1) (Int.ofNat_le.1 c.1.2) (by omega)
  ·exact topG_no hk hN a l m c
 ·have pP :=p20_pure hx hh
  rw [decide_eq_false hp] at pP
  have lx :=hx.no
  have lh :=hh.no
  rcases hx with ⟨rfl,rfl⟩ | rfl
  ·rcases hh with ⟨rfl,rfl⟩ | rfl
   all_goals
    refine pure_sym hE rfl (by repeat' (first | exact trivial | assumption | exact flat_no _ | exact (fun _ h => nomatch h) | apply And.intro)) (by repeat' (first | exact trivial | assumption | exact flat_no _ | exact (fun _ h => nomatch h) | apply And.intro)) fun S q pc hS hq hC hE => ?_
    conv => whnf
    refine sym_pure hC (pP) ?_
    conv => whnf
    refine sym_pure hC (hk) ?_
    conv => whnf
    exact ⟨_,rfl,Wk.refl _⟩
  ·rcases hh with ⟨rfl,rfl⟩ | rfl
   all_goals
    refine pure_sym hE rfl (by repeat' (first | exact trivial | assumption | exact flat_no _ | exact (fun _ h => nomatch h) | apply And.intro)) (by repeat' (first | exact trivial | assumption | exact flat_no _ | exact (fun _ h => nomatch h) | apply And.intro)) fun S q pc hS hq hC hE => ?_
    conv => whnf
    refine sym_pure hC (pP) ?_
    conv => whnf
    refine sym_pure hC (hk) ?_
    conv => whnf
    exact ⟨_,rfl,Wk.refl _⟩
end
end Go.Abs.Seat
