/-
  The law TopFeasts, no settings or no feasts.
-/
import Derived.Test.YtcnidgafdonioaaGreatVE9
namespace Go.Abs.Seat
noncomputable section
open Go Go.Abs Go.Proofs.Tryz
set_option maxRecDepth 100000
set_option maxHeartbeats 40000000
attribute [local irreducible] IntKind.wrap pEq pSlice
theorem topFeasts_a (hk:Pure prog 7 [] (.bool true)) {E:Int} {C:List Int} (hcal:calOk E C) {n d a:Int} (hm:moonOk n d a) {l:List Ft} (hl:ftsOk l) (h1:1 ≤ l.length) (y:Nat) (hy:y ≤ 4000)
  {v:AV} {k p g:Nat} (hv:TV v k p g) (fn fd m:Nat) (hn:fn ≤ 50000) (hnd:1 ≤ fd ∧ fd ≤ 50000) (hml:m ≤ 10800) (u:Nat) (hu:u ≤ 10000) {M:Nat} (hM:M = 400)
  (hsel:okS (f20 (dsL (ftD E C n d a y) l l.length) (fdY E C y) M) (lastV p g fn fd m) u (2 ^ (f20 (dsL (ftD E C n d a y) l l.length) (fdY E C y) M).length) = [] ∨ f20 (dsL (ftD E C n d a y) l l.length) (fdY E C y) M = []) :
  Pure prog 4 [.agg [iv E,nl C],mnV n d a,ftL l,nv y,v,fv (Int.ofNat fn) (Int.ofNat fd),nv m,nv u] (.bool true) :=by
 have lC :=ivs_no C
 have ll :=fts_no l
 have h6 :=hl.1
 have pCal :=rCalendar_pure E C hcal.2.1.2
 rw [decide_eq_true hcal] at pCal
 have pMoon :=rMoon_pure n d a
 rw [decide_eq_true hm] at pMoon
 have pFts :=rFts_pure l h6
 rw [decide_eq_true hl] at pFts
 have pYear :=rYear_pure (Int.ofNat y)
 rw [decide_eq_true (show 0 ≤ Int.ofNat y ∧ Int.ofNat y ≤ 4000 from ⟨by show (0:Int) ≤ (y:Int);omega,by show (y:Int) ≤ 4000;omega⟩)] at pYear
 have pTr :=hv.rT
 have pF :=rFraction_pure (Int.ofNat fn) (Int.ofNat fd)
 rw [decide_eq_true (isF_N hn hnd.1 hnd.2)] at pF
 have pL :=rLimit_pure (Int.ofNat m)
 rw [decide_eq_true (rng (t :=m) (m :=10800) (by omega))] at pL
 have pN :=rNumber_pure (Int.ofNat u)
 rw [decide_eq_true (rng (t :=u) (m :=10000) (by omega))] at pN
 have pFe :=dFeasts_pure hcal hm hl h1 y hy
 have pDa :=day1_pure hcal y hy
 have pMe :=dMeet_pure hcal hm hl h1 y hy
 have hDl :=dsL_len (ftD E C n d a y) l l.length
 have hF :=fdY_le E C y
 have hE0 :=hcal.1
 have hDy:dyH (dsL (ftD E C n d a y) l l.length) (fdY E C y) :=⟨by omega,by omega,fun i hi => by
  rw [hDl] at hi
  rw [show gi (dsL (ftD E C n d a y) l l.length) i = ftD E C n d a y (gf l i) from dsL_get _ _ _ i hi]
  exact ftD_le hcal.1.1 hm (hl.2 i hi)⟩
 generalize dsL (ftD E C n d a y) l l.length = D at *
 generalize fdY E C y = F at *
 have hmt :=mt_cases D F hM hDy y
 generalize sv (mtL D y) = Y at *
 have pS :=f20_pure hDy hM
 have oS :=f20_fe D F hM hDy.l6 hDy.gb
 have hsub :=f20_sub D F M
 have hsome :=someN_le D D.length
 cases D with
 |nil => simp at hDl;omega
 |cons d0 r =>
 have hDt :=hDy.tail
 have pS2 :=f20_pure hDt hM
 have oS2 :=f20_fe r F hM hDt.l6 hDt.gb
 have hsub:(f20 r F M).Sublist (f20 (d0 :: r) F M) :=hsub
 have c1:decide ((C.length:Int) > 3) = false :=decide_eq_false (by have :=hcal.2.1.2;omega)
 have c4:decide ((l.length:Int) > 6) = false :=decide_eq_false (by omega)
 have c5:decide ((l.length:Int) < 1) = false :=decide_eq_false (by omega)
 have c8:decide ((k:Int) > 3) = false :=decide_eq_false (by have :=hv.k1;omega)
 have c9:(!(((d0 :: r).length:Int) == (l.length:Int))) = false :=neq_f (by rw [hDl])
 have c10:decide (F < 0) = false :=decide_eq_false (by have :=hDy.fb;omega)
 have c11:decide (F > 2000000) = false :=decide_eq_false (by have :=hDy.fb;omega)
 have lr :=ivs_no r
 have hv2 :=hv
 obtain ⟨xs,rfl,lx⟩ :=hv.sh
 have hp :=settings_any hv fn fd m hn hnd hml (IL.sv (f20 (d0 :: r) F M)) oS u hu
 have hp2 :=settings_any hv fn fd m hn hnd hml (IL.sv (f20 r F M)) oS2 u hu
 have hsl :=fun h => settings_less hsub (Nat.le_refl (lastV p g fn fd m)) (u :=u) h
 generalize f20 r F M = Sg at *
 generalize f20 (d0 :: r) F M = Sf at *
 have hB :=fun h => okS_all.1 (bstS_mem (l :=okS Sf (lastV p g fn fd m) u (2 ^ Sf.length)) h)
 rw [setV] at hp hp2
 have hW2 :=@okS_mem Sg (lastV p g fn fd m) u
 have hW2:∀ {x},x ∈ okS Sg (lastV p g fn fd m) u (2 ^ Sg.length) → x.length ≤ Sg.length :=fun z => hW2 z
 generalize okS Sf (lastV p g fn fd m) u (2 ^ Sf.length) = W at *
 generalize okS Sg (lastV p g fn fd m) u (2 ^ Sg.length) = W2 at *
 have okS_mem':W2 ≠ [] → (bstS W2).length ≤ Sg.length :=fun z => hW2 (bstS_mem z)
 have sh:Sf = [] ∨ sv Sf = nl Sf :=(sv_cases Sf).imp (fun z => z.1) id
 have sh2:Sg = [] ∨ sv Sg = nl Sg :=(sv_cases Sg).imp (fun z => z.1) id
 rcases hmt with ⟨rfl,hc⟩ | ⟨rfl,hc⟩
 all_goals
  refine pure_symX hE rfl (by repeat' (first | exact trivial | assumption | exact flat_no _ | exact (fun _ h => nomatch h) | apply And.intro)) (by repeat' (first | exact trivial | assumption | exact flat_no _ | exact (fun _ h => nomatch h) | apply And.intro)) fun S q pc hS hq hC hE => ?_
  conv => whnf
  refine sym_seq (E :=Seat.E q pc) hS (sym_code hE hS ?_)
  conv => whnf
  refine sym_seq (E :=Seat.E q pc) hS (sym_code hE hS ?_)
  conv => whnf
  repeat ((first
   |refine ko_sT c1 ?_
   |refine ko_rF c1 ?_
   |refine plan_as (pick_f c1) ?_
   |refine bool_false c1 ?_
   |refine ko_sT c4 ?_
   |refine ko_rF c4 ?_
   |refine plan_as (pick_f c4) ?_
   |refine bool_false c4 ?_
   |refine ko_sT c5 ?_
   |refine ko_rF c5 ?_
   |refine plan_as (pick_f c5) ?_
   |refine bool_false c5 ?_
   |refine ko_sT c8 ?_
   |refine ko_rF c8 ?_
   |refine plan_as (pick_f c8) ?_
   |refine bool_false c8 ?_
   |refine ko_sT c9 ?_
   |refine ko_rF c9 ?_
   |refine plan_as (pick_f c9) ?_
   |refine bool_false c9 ?_
   |refine ko_sT c10 ?_
   |refine ko_rF c10 ?_
   |refine plan_as (pick_f c10) ?_
   |refine bool_false c10 ?_
   |refine ko_sT c11 ?_
   |refine ko_rF c11 ?_
   |refine plan_as (pick_f c11) ?_
   |refine bool_false c11 ?_
   |refine sym_pure hC (pCal) ?_
   |refine sym_pure hC (pMoon) ?_
   |refine sym_pure hC (pFts) ?_
   |refine sym_pure hC (pYear) ?_
   |refine sym_pure hC (pTr) ?_
   |refine sym_pure hC (pF) ?_
   |refine sym_pure hC (pL) ?_
   |refine sym_pure hC (pN) ?_
   |refine sym_pure hC (pFe) ?_
   |refine sym_pure hC (pDa) ?_
   |refine sym_pure hC (pMe) ?_
   |refine sym_drawn hS (by kernel_rfl) ?_);conv => whnf)
  refine sym_seq (E :=Seat.E q pc) hS (sym_code hE hS ?_)
  conv => whnf
  repeat ((first
   |refine ko_sT c1 ?_
   |refine ko_rF c1 ?_
   |refine plan_as (pick_f c1) ?_
   |refine bool_false c1 ?_
   |refine ko_sT c4 ?_
   |refine ko_rF c4 ?_
   |refine plan_as (pick_f c4) ?_
   |refine bool_false c4 ?_
   |refine ko_sT c5 ?_
   |refine ko_rF c5 ?_
   |refine plan_as (pick_f c5) ?_
   |refine bool_false c5 ?_
   |refine ko_sT c8 ?_
   |refine ko_rF c8 ?_
   |refine plan_as (pick_f c8) ?_
   |refine bool_false c8 ?_
   |refine ko_sT c9 ?_
   |refine ko_rF c9 ?_
   |refine plan_as (pick_f c9) ?_
   |refine bool_false c9 ?_
   |refine ko_sT c10 ?_
   |refine ko_rF c10 ?_
   |refine plan_as (pick_f c10) ?_
   |refine bool_false c10 ?_
   |refine ko_sT c11 ?_
   |refine ko_rF c11 ?_
   |refine plan_as (pick_f c11) ?_
   |refine bool_false c11 ?_
   |refine sym_pure hC (pCal) ?_
   |refine sym_pure hC (pMoon) ?_
   |refine sym_pure hC (pFts) ?_
   |refine sym_pure hC (pYear) ?_
   |refine sym_pure hC (pTr) ?_
   |refine sym_pure hC (pF) ?_
   |refine sym_pure hC (pL) ?_
   |refine sym_pure hC (pN) ?_
   |refine sym_pure hC (pFe) ?_
   |refine sym_pure hC (pDa) ?_
   |refine sym_pure hC (pMe) ?_
   |refine sym_drawn hS (by kernel_rfl) ?_);conv => whnf)
  refine sym_seq (E :=Seat.E q pc) hS (sym_code hE hS ?_)
  conv => whnf
  repeat ((first
   |refine ko_sT c1 ?_
   |refine ko_rF c1 ?_
   |refine plan_as (pick_f c1) ?_
   |refine bool_false c1 ?_
   |refine ko_sT c4 ?_
   |refine ko_rF c4 ?_
   |refine plan_as (pick_f c4) ?_
   |refine bool_false c4 ?_
   |refine ko_sT c5 ?_
   |refine ko_rF c5 ?_
   |refine plan_as (pick_f c5) ?_
   |refine bool_false c5 ?_
   |refine ko_sT c8 ?_
   |refine ko_rF c8 ?_
   |refine plan_as (pick_f c8) ?_
   |refine bool_false c8 ?_
   |refine ko_sT c9 ?_
   |refine ko_rF c9 ?_
   |refine plan_as (pick_f c9) ?_
   |refine bool_false c9 ?_
   |refine ko_sT c10 ?_
   |refine ko_rF c10 ?_
   |refine plan_as (pick_f c10) ?_
   |refine bool_false c10 ?_
   |refine ko_sT c11 ?_
   |refine ko_rF c11 ?_
   |refine plan_as (pick_f c11) ?_
   |refine bool_false c11 ?_
   |refine sym_pure hC (pCal) ?_
   |refine sym_pure hC (pMoon) ?_
   |refine sym_pure hC (pFts) ?_
   |refine sym_pure hC (pYear) ?_
   |refine sym_pure hC (pTr) ?_
   |refine sym_pure hC (pF) ?_
   |refine sym_pure hC (pL) ?_
   |refine sym_pure hC (pN) ?_
   |refine sym_pure hC (pFe) ?_
   |refine sym_pure hC (pDa) ?_
   |refine sym_pure hC (pMe) ?_
   |refine sym_drawn hS (by kernel_rfl) ?_);conv => whnf)
  refine sym_seq (E :=Seat.E q pc) hS (sym_code hE hS ?_)
  conv => whnf
  repeat ((first
   |refine ko_sT c1 ?_
   |refine ko_rF c1 ?_
   |refine plan_as (pick_f c1) ?_
   |refine bool_false c1 ?_
   |refine ko_sT c4 ?_
   |refine ko_rF c4 ?_
   |refine plan_as (pick_f c4) ?_
   |refine bool_false c4 ?_
   |refine ko_sT c5 ?_
   |refine ko_rF c5 ?_
   |refine plan_as (pick_f c5) ?_
   |refine bool_false c5 ?_
   |refine ko_sT c8 ?_
   |refine ko_rF c8 ?_
   |refine plan_as (pick_f c8) ?_
   |refine bool_false c8 ?_
   |refine ko_sT c9 ?_
   |refine ko_rF c9 ?_
   |refine plan_as (pick_f c9) ?_
   |refine bool_false c9 ?_
   |refine ko_sT c10 ?_
   |refine ko_rF c10 ?_
   |refine plan_as (pick_f c10) ?_
   |refine bool_false c10 ?_
   |refine ko_sT c11 ?_
   |refine ko_rF c11 ?_
   |refine plan_as (pick_f c11) ?_
   |refine bool_false c11 ?_
   |refine sym_pure hC (pCal) ?_
   |refine sym_pure hC (pMoon) ?_
   |refine sym_pure hC (pFts) ?_
   |refine sym_pure hC (pYear) ?_
   |refine sym_pure hC (pTr) ?_
   |refine sym_pure hC (pF) ?_
   |refine sym_pure hC (pL) ?_
   |refine sym_pure hC (pN) ?_
   |refine sym_pure hC (pFe) ?_
   |refine sym_pure hC (pDa) ?_
   |refine sym_pure hC (pMe) ?_
   |refine sym_drawn hS (by kernel_rfl) ?_);conv => whnf)
  refine sym_seq (E :=Seat.E q pc) hS (sym_code hE hS ?_)
  conv => whnf
  repeat ((first
   |refine ko_sT c1 ?_
   |refine ko_rF c1 ?_
   |refine plan_as (pick_f c1) ?_
   |refine bool_false c1 ?_
   |refine ko_sT c4 ?_
   |refine ko_rF c4 ?_
   |refine plan_as (pick_f c4) ?_
   |refine bool_false c4 ?_
   |refine ko_sT c5 ?_
   |refine ko_rF c5 ?_
   |refine plan_as (pick_f c5) ?_
   |refine bool_false c5 ?_
   |refine ko_sT c8 ?_
   |refine ko_rF c8 ?_
   |refine plan_as (pick_f c8) ?_
   |refine bool_false c8 ?_
   |refine ko_sT c9 ?_
   |refine ko_rF c9 ?_
   |refine plan_as (pick_f c9) ?_
   |refine bool_false c9 ?_
   |refine ko_sT c10 ?_
   |refine ko_rF c10 ?_
   |refine plan_as (pick_f c10) ?_
   |refine bool_false c10 ?_
   |refine ko_sT c11 ?_
   |refine ko_rF c11 ?_
   |refine plan_as (pick_f c11) ?_
   |refine bool_false c11 ?_
   |refine sym_pure hC (pCal) ?_
   |refine sym_pure hC (pMoon) ?_
   |refine sym_pure hC (pFts) ?_
   |refine sym_pure hC (pYear) ?_
   |refine sym_pure hC (pTr) ?_
   |refine sym_pure hC (pF) ?_
   |refine sym_pure hC (pL) ?_
   |refine sym_pure hC (pN) ?_
   |refine sym_pure hC (pFe) ?_
   |refine sym_pure hC (pDa) ?_
   |refine sym_pure hC (pMe) ?_
   |refine sym_drawn hS (by kernel_rfl) ?_);conv => whnf)
  refine sym_seq (E :=Seat.E q pc) hS (sym_code hE hS ?_)
  conv => whnf
  refine sym_seqG (E :=Seat.E q pc) hS (A :=Unit) [4,6,7,13,16,17,19,21] (fun _ => [(23,nv (someN (d0 :: r) (d0 :: r).length))]) (fun _ => []) (fun _ => []) (fun _ => True) (by exact Nat.le_of_ble_eq_true rfl) (sym_code hE hS ?_) ?_
  ·conv => whnf
   refine sym_loop hE hS (A :=Nat) [4,6,7,13,16,17,19,21] (fun i => [(23,nv (someN (d0 :: r) i)),(24,nv i)]) (fun _ => []) (fun i => i ≤ (d0 :: r).length) (fun i => (d0 :: r).length - i) 0 rfl rfl (by refine ⟨rfl,rfl,rfl,rfl,?_,?_⟩ <;> repeat' (first | exact trivial | exact rfl | exact Nat.zero_le _ | exact bdl_no lx | exact bdl_no lr | exact bdl_no lC | exact bdl_no ll | exact Nat.max_le.2 ⟨Nat.zero_le _,bdl_no lr⟩ | exact Nat.le_of_ble_eq_true rfl | exact bdl_no (by assumption) | exact bdl_no (flat_no _) | exact bdl_no (ivs_no _) | exact Nat.max_le.2 ⟨Nat.le_of_ble_eq_true rfl,bdl_no (ivs_no _)⟩ | apply And.intro)) (Nat.zero_le _) ?_
   intro i hi
   conv => whnf
   by_cases h:i < (d0 :: r).length
   ·have hi1:IntKind.i64.wrap (Int.ofNat i + 1) = Int.ofNat (i + 1) :=wrapN (m :=i + 1) (by omega)
    have hg :=hDy.gb i h
    have hwF:IntKind.i64.wrap (F + 365) = F + 365 :=wrapI (by have :=hDy.fb;omega) (by have :=hDy.fb;omega)
    have eg:decide (gi (d0 :: r) i > 2000000) = false :=decide_eq_false (by have :=hDy.fb;omega)
    refine bool_true (ltN_t h) ?_
    conv => whnf
    by_cases h0:0 ≤ gi (d0 :: r) i
    ·have e0:decide (gi (d0 :: r) i ≥ 0) = true :=decide_eq_true h0
     have el:decide (gi (d0 :: r) i < F) = false :=decide_eq_false (by omega)
     have eu:decide (gi (d0 :: r) i > IntKind.i64.wrap (F + 365)) = false :=by rw [hwF];exact decide_eq_false (by omega)
     have hs1 :=someN_wrap (d0 :: r) h hDy.l6 h0
     repeat ((first
      |refine plan_as (nthP (nth_ivs1 h)) ?_
      |refine ko_rT (inR_t h) ?_
      |refine ko_sF (inR_t h) ?_
      |refine plan_as (pick_t (inR_t h)) ?_
      |refine bool_true (inR_t h) ?_
      |refine ko_rT e0 ?_
      |refine ko_sF e0 ?_
      |refine plan_as (pick_t e0) ?_
      |refine bool_true e0 ?_
      |refine ko_sT eg ?_
      |refine ko_rF eg ?_
      |refine plan_as (pick_f eg) ?_
      |refine bool_false eg ?_
      |refine ko_sT el ?_
      |refine ko_rF el ?_
      |refine plan_as (pick_f el) ?_
      |refine bool_false el ?_
      |refine ko_sT eu ?_
      |refine ko_rF eu ?_
      |refine plan_as (pick_f eu) ?_
      |refine bool_false eu ?_
      |refine sym_drawn hS (by kernel_rfl) ?_);conv => whnf)
     exact ⟨i + 1,h,by omega,(by refine ⟨rfl,rfl,rfl,rfl,?_,?_⟩ <;> repeat' (first | exact trivial | exact rfl | exact Nat.zero_le _ | exact congrArg (fun z => some (AV.int .i64 z)) hi1 | exact congrArg (fun z => some (AV.int .i64 z)) hs1 | exact bdl_no lx | exact bdl_no lr | exact bdl_no lC | exact bdl_no ll | exact Nat.max_le.2 ⟨Nat.zero_le _,bdl_no lr⟩ | exact Nat.le_of_ble_eq_true rfl | exact bdl_no (by assumption) | exact bdl_no (flat_no _) | exact bdl_no (ivs_no _) | exact Nat.max_le.2 ⟨Nat.le_of_ble_eq_true rfl,bdl_no (ivs_no _)⟩ | apply And.intro))⟩
    ·have e0:decide (gi (d0 :: r) i ≥ 0) = false :=decide_eq_false h0
     have hs1:Int.ofNat (someN (d0 :: r) i) = Int.ofNat (someN (d0 :: r) (i + 1)) :=by rw [someN,if_neg h0];rfl
     repeat ((first
      |refine plan_as (nthP (nth_ivs1 h)) ?_
      |refine ko_rT (inR_t h) ?_
      |refine ko_sF (inR_t h) ?_
      |refine plan_as (pick_t (inR_t h)) ?_
      |refine bool_true (inR_t h) ?_
      |refine ko_sT e0 ?_
      |refine ko_rF e0 ?_
      |refine plan_as (pick_f e0) ?_
      |refine bool_false e0 ?_
      |refine ko_sT eg ?_
      |refine ko_rF eg ?_
      |refine plan_as (pick_f eg) ?_
      |refine bool_false eg ?_
      |refine sym_drawn hS (by kernel_rfl) ?_);conv => whnf)
     exact ⟨i + 1,h,by omega,(by refine ⟨rfl,rfl,rfl,rfl,?_,?_⟩ <;> repeat' (first | exact trivial | exact rfl | exact Nat.zero_le _ | exact congrArg (fun z => some (AV.int .i64 z)) hi1 | exact congrArg (fun z => some (AV.int .i64 z)) hs1 | exact bdl_no lx | exact bdl_no lr | exact bdl_no lC | exact bdl_no ll | exact Nat.max_le.2 ⟨Nat.zero_le _,bdl_no lr⟩ | exact Nat.le_of_ble_eq_true rfl | exact bdl_no (by assumption) | exact bdl_no (flat_no _) | exact bdl_no (ivs_no _) | exact Nat.max_le.2 ⟨Nat.le_of_ble_eq_true rfl,bdl_no (ivs_no _)⟩ | apply And.intro))⟩
   refine bool_false (ltN_f h) ?_
   conv => whnf
   have hi:i = (d0 :: r).length :=by omega
   subst hi
   exact ⟨(),trivial,(by refine ⟨rfl,rfl,rfl,rfl,rfl,rfl,3,rfl,?_,?_⟩ <;> repeat' (first | exact trivial | exact rfl | exact ⟨_,rfl,WkV.refl _⟩ | exact ⟨_,rfl,WkV.own _ _ _⟩ | exact Nat.zero_le _ | exact bdl_no lx | exact bdl_no lr | exact bdl_no lC | exact bdl_no ll | exact Nat.max_le.2 ⟨Nat.zero_le _,bdl_no lr⟩ | exact Nat.le_of_ble_eq_true rfl | exact bdl_no (by assumption) | exact bdl_no (flat_no _) | exact bdl_no (ivs_no _) | exact bdl_no (svs_no _) | exact Nat.max_le.2 ⟨Nat.le_of_ble_eq_true rfl,bdl_no (ivs_no _)⟩ | exact Nat.max_le.2 ⟨Nat.le_of_ble_eq_true rfl,bdl_no (svs_no _)⟩ | apply And.intro))⟩
  ·rintro ⟨⟩ _ N rfl
   by_cases w0:W = []
   ·rw [if_pos w0,if_pos w0] at hp
    have w2:W2 = [] :=Classical.byContradiction fun z => (hsl z).1 w0
    rw [if_pos w2,if_pos w2] at hp2
    rcases sh with rfl | e <;> rcases sh2 with rfl | e2
    all_goals
     try rw [e] at pS hp
     try rw [e2] at pS2 hp2
     refine sym_code hE hS ?_
     conv => whnf
     refine sym_pure hC (pS) ?_
     conv => whnf
     refine sym_eq hq true (eqBool_of hc.symm) ?_
     conv => whnf
     repeat ((first
      |refine plan_as (slice_tail (e :=3) (inf :=t3) (by kernel_rfl) (by kernel_rfl) rfl) ?_
      |refine sym_pure hC (hp) ?_
      |refine sym_pure hC (pS2) ?_
      |refine sym_pure hC (hp2) ?_
      |refine sym_pure hC (hk) ?_
      |refine sym_drawn hS (by kernel_rfl) ?_);conv => whnf)
     exact ⟨_,rfl,Wk.refl _⟩
   ·rw [if_neg w0,if_neg w0] at hp
    have hB :=hB w0
    have hlS :=oS.2
    have hBl:(bstS W).length ≤ Sf.length :=(Days.of oS hB.1).sl
    have hBd :=Days.of oS hB.1
    generalize bstS W = B at *
    obtain ⟨_,psB,rsB,isB⟩ :=set_b (IL.sv Sf) (IL.sv B) (by omega) (by omega)
    rw [isB.2 hB.1] at psB rsB
    have pfS :=areFe_any (IL.sv Sf) oS
    have pkB :=keepsE_pure hv2 fn fd m hn hnd hml (IL.sv Sf) (IL.sv B) pfS psB u hu (keeps_any oS hB.1 (lastV_le p g fn fd m) hu (b :=true) ⟨fun _ => hB.2,fun _ => rfl⟩)
    have hsh :=fun i (hi:i < B.length) => shown_at hv2 fn fd hn hnd (IL.sv Sf) (IL.sv B) oS hB.1 pfS psB hi
    have c20:decide ((B.length:Int) > (Sf.length:Int)) = false :=decide_eq_false (by omega)
    have lS :=ivs_no Sf
    have lB :=ivs_no B
    rcases sh with rfl | e
    ·have:B = [] :=List.eq_nil_of_length_eq_zero (by simpa using hBl)
     subst this
     have:Sg = [] :=List.eq_nil_of_length_eq_zero (by have :=hsub.length_le;simpa using this)
     subst this
     by_cases w2:W2 = []
     ·rw [if_pos w2,if_pos w2] at hp2
      refine sym_code hE hS ?_
      conv => whnf
      refine sym_pure hC (pS) ?_
      conv => whnf
      refine sym_eq hq true (eqBool_of hc.symm) ?_
      conv => whnf
      repeat ((first
       |refine plan_as (slice_tail (e :=3) (inf :=t3) (by kernel_rfl) (by kernel_rfl) rfl) ?_
       |refine sym_pure hC (hp) ?_
       |refine sym_pure hC (pS2) ?_
       |refine sym_pure hC (hp2) ?_
       |refine sym_pure hC (rsB) ?_
       |refine sym_pure hC (pkB) ?_
       |refine sym_drawn hS (by kernel_rfl) ?_);conv => whnf)
      refine sym_unroll hE hS ?_
      conv => whnf
      refine sym_pure hC (hk) ?_
      conv => whnf
      exact ⟨_,rfl,Wk.refl _⟩
     ·rw [if_neg w2,if_neg w2] at hp2
      have:bstS W2 = [] :=List.eq_nil_of_length_eq_zero (by have :=okS_mem' w2;simpa using this)
      rw [this] at hp2
      refine sym_code hE hS ?_
      conv => whnf
      refine sym_pure hC (pS) ?_
      conv => whnf
      refine sym_eq hq true (eqBool_of hc.symm) ?_
      conv => whnf
      repeat ((first
       |refine plan_as (slice_tail (e :=3) (inf :=t3) (by kernel_rfl) (by kernel_rfl) rfl) ?_
       |refine sym_pure hC (hp) ?_
       |refine sym_pure hC (pS2) ?_
       |refine sym_pure hC (hp2) ?_
       |refine sym_pure hC (rsB) ?_
       |refine sym_pure hC (pkB) ?_
       |refine sym_drawn hS (by kernel_rfl) ?_);conv => whnf)
      refine sym_unroll hE hS ?_
      conv => whnf
      refine sym_pure hC (hk) ?_
      conv => whnf
      exact ⟨_,rfl,Wk.refl _⟩
    ·rw [e] at pS hp rsB pkB hsh
     rcases sv_cases B with ⟨rfl,eB⟩ | eB
     ·rw [eB] at hp rsB pkB
      rcases sh2 with rfl | e2
      ·by_cases w2:W2 = []
       ·rw [if_pos w2,if_pos w2] at hp2
        exact absurd (hsel.elim id fun z => absurd e (svz z)) w0
       ·rw [if_neg w2,if_neg w2] at hp2
        have hBB :=(hsl w2).2
        have hB2 :=okS_mem' w2
        generalize bstS W2 = B2 at hp2 hBB hB2
        have c21:decide ((([]:List Int).length:Int) > (B2.length:Int)) = false :=decide_eq_false (by omega)
        have:B2 = [] :=List.eq_nil_of_length_eq_zero (by simpa using hB2)
        subst this
        exact absurd (hsel.elim id fun z => absurd e (svz z)) w0
      ·rw [e2] at pS2 hp2
       by_cases w2:W2 = []
       ·rw [if_pos w2,if_pos w2] at hp2
        exact absurd (hsel.elim id fun z => absurd e (svz z)) w0
       ·rw [if_neg w2,if_neg w2] at hp2
        have hBB :=(hsl w2).2
        have hB2 :=okS_mem' w2
        generalize bstS W2 = B2 at hp2 hBB hB2
        have c21:decide ((([]:List Int).length:Int) > (B2.length:Int)) = false :=decide_eq_false (by omega)
        rcases sv_cases B2 with ⟨rfl,e3⟩ | e3
        all_goals
         rw [e3] at hp2
         exact absurd (hsel.elim id fun z => absurd e (svz z)) w0
     ·rw [eB] at hp rsB pkB hsh
      rcases sh2 with rfl | e2
      ·by_cases w2:W2 = []
       ·rw [if_pos w2,if_pos w2] at hp2
        exact absurd (hsel.elim id fun z => absurd e (svz z)) w0
       ·rw [if_neg w2,if_neg w2] at hp2
        have hBB :=(hsl w2).2
        have hB2 :=okS_mem' w2
        generalize bstS W2 = B2 at hp2 hBB hB2
        have c21:decide ((B.length:Int) > (B2.length:Int)) = false :=decide_eq_false (by omega)
        have:B2 = [] :=List.eq_nil_of_length_eq_zero (by simpa using hB2)
        subst this
        have:B = [] :=List.eq_nil_of_length_eq_zero (by simpa using hBB)
        subst this
        cases eB
      ·rw [e2] at pS2 hp2
       by_cases w2:W2 = []
       ·rw [if_pos w2,if_pos w2] at hp2
        exact absurd (hsel.elim id fun z => absurd e (svz z)) w0
       ·rw [if_neg w2,if_neg w2] at hp2
        have hBB :=(hsl w2).2
        have hB2 :=okS_mem' w2
        generalize bstS W2 = B2 at hp2 hBB hB2
        have c21:decide ((B.length:Int) > (B2.length:Int)) = false :=decide_eq_false (by omega)
        rcases sv_cases B2 with ⟨rfl,e3⟩ | e3
        ·have:B = [] :=List.eq_nil_of_length_eq_zero (by simpa using hBB)
         subst this
         cases eB
        ·rw [e3] at hp2
         exact absurd (hsel.elim id fun z => absurd e (svz z)) w0
end
end Go.Abs.Seat
