/-
  The law TopGuessed.
-/
import Derived.Test.YtcnidgafdonioaaGreatVU13
import Derived.Test.YtcnidgafdonioaaGreatVU11
import Derived.Test.YtcnidgafdonioaaGreatVU6
namespace Go.Abs.Seat
noncomputable section
open Go Go.Abs Go.Proofs.Tryz
set_option maxRecDepth 100000
set_option maxHeartbeats 40000000
attribute [local irreducible] IntKind.wrap pEq
theorem big20_pure {x:Nat × Nat} (h1:1 ≤ x.1 ∧ x.1 ≤ 216000) (h2:1 ≤ x.2 ∧ x.2 ≤ 216000):Pure prog 11 [qw x] (.bool true) :=by
 have e1:decide (Int.ofNat x.1 ≥ 1) = true :=decide_eq_true (Int.ofNat_le.2 h1.1)
 have e2:decide (Int.ofNat x.1 ≤ 216000) = true :=decide_eq_true (Int.ofNat_le.2 h1.2)
 have e3:decide (Int.ofNat x.2 ≥ 1) = true :=decide_eq_true (Int.ofNat_le.2 h2.1)
 have e4:decide (Int.ofNat x.2 ≤ 216000) = true :=decide_eq_true (Int.ofNat_le.2 h2.2)
 refine pure_sym hE rfl (by repeat' (first | exact trivial | assumption | exact flat_no _ | exact (fun _ h => nomatch h) | apply And.intro)) (by repeat' (first | exact trivial | assumption | exact flat_no _ | exact (fun _ h => nomatch h) | apply And.intro)) fun S q pc hS hq hC hE => ?_
 conv => whnf
 repeat ((first
  |refine ko_rT (gd_tt e1) ?_
  |refine ko_sF (gd_tt e1) ?_
  |refine plan_as (pick_t (gd_tt e1)) ?_
  |refine bool_true (gd_tt e1) ?_
  |refine ko_rT (gd_tt e2) ?_
  |refine ko_sF (gd_tt e2) ?_
  |refine plan_as (pick_t (gd_tt e2)) ?_
  |refine bool_true (gd_tt e2) ?_
  |refine ko_rT (gd_tt e3) ?_
  |refine ko_sF (gd_tt e3) ?_
  |refine plan_as (pick_t (gd_tt e3)) ?_
  |refine bool_true (gd_tt e3) ?_
  |refine ko_rT e1 ?_
  |refine ko_sF e1 ?_
  |refine plan_as (pick_t e1) ?_
  |refine bool_true e1 ?_
  |refine ko_rT e2 ?_
  |refine ko_sF e2 ?_
  |refine plan_as (pick_t e2) ?_
  |refine bool_true e2 ?_
  |refine ko_rT e3 ?_
  |refine ko_sF e3 ?_
  |refine plan_as (pick_t e3) ?_
  |refine bool_true e3 ?_
  |refine sym_drawn hS (by kernel_rfl) ?_);conv => whnf)
 exact ⟨_,rfl,wkb e4⟩
theorem p20_pure {x h:AV} {L:List LkI} {M:List Int} (hx:LL x L) (hh:IL h M):Pure prog 5 [.agg [x,h]] (.bool (decide (pcOk L M))) :=by
 have pP :=rPiece_pure hx hh
 obtain ⟨B,hB⟩ : ∃ B,decide (pcOk L M) = B :=⟨_,rfl⟩
 rw [hB] at pP ⊢
 have lx :=hx.no
 have lh :=hh.no
 by_cases h1:L.length ≤ 5
 ·have e1:decide ((L.length:Int) ≤ 5) = true :=decide_eq_true (by omega)
  by_cases h2:M.length ≤ 4
  ·have e2:decide ((M.length:Int) ≤ 4) = true :=decide_eq_true (by omega)
   rcases hx with ⟨rfl,rfl⟩ | rfl
   ·rcases hh with ⟨rfl,rfl⟩ | rfl
    ·refine pure_sym hE rfl (by repeat' (first | exact trivial | assumption | exact flat_no _ | exact (fun _ h => nomatch h) | apply And.intro)) (by repeat' (first | exact trivial | assumption | exact flat_no _ | exact (fun _ h => nomatch h) | apply And.intro)) fun S q pc hS hq hC hE => ?_
     conv => whnf
     repeat ((first
      |refine ko_rT e1 ?_
      |refine ko_sF e1 ?_
      |refine plan_as (pick_t e1) ?_
      |refine bool_true e1 ?_
      |refine sym_pure hC (pP) ?_
      |refine sym_drawn hS (by kernel_rfl) ?_);conv => whnf)
     exact ⟨_,rfl,Wk.refl _⟩
    ·refine pure_sym hE rfl (by repeat' (first | exact trivial | assumption | exact flat_no _ | exact (fun _ h => nomatch h) | apply And.intro)) (by repeat' (first | exact trivial | assumption | exact flat_no _ | exact (fun _ h => nomatch h) | apply And.intro)) fun S q pc hS hq hC hE => ?_
     conv => whnf
     repeat ((first
      |refine ko_rT (gd_tt e2) ?_
      |refine ko_sF (gd_tt e2) ?_
      |refine plan_as (pick_t (gd_tt e2)) ?_
      |refine bool_true (gd_tt e2) ?_
      |refine ko_rT e2 ?_
      |refine ko_sF e2 ?_
      |refine plan_as (pick_t e2) ?_
      |refine bool_true e2 ?_
      |refine sym_pure hC (pP) ?_
      |refine sym_drawn hS (by kernel_rfl) ?_);conv => whnf)
     exact ⟨_,rfl,Wk.refl _⟩
   ·rcases hh with ⟨rfl,rfl⟩ | rfl
    ·refine pure_sym hE rfl (by repeat' (first | exact trivial | assumption | exact flat_no _ | exact (fun _ h => nomatch h) | apply And.intro)) (by repeat' (first | exact trivial | assumption | exact flat_no _ | exact (fun _ h => nomatch h) | apply And.intro)) fun S q pc hS hq hC hE => ?_
     conv => whnf
     repeat ((first
      |refine ko_rT (gd_tt e1) ?_
      |refine ko_sF (gd_tt e1) ?_
      |refine plan_as (pick_t (gd_tt e1)) ?_
      |refine bool_true (gd_tt e1) ?_
      |refine ko_rT e1 ?_
      |refine ko_sF e1 ?_
      |refine plan_as (pick_t e1) ?_
      |refine bool_true e1 ?_
      |refine sym_pure hC (pP) ?_
      |refine sym_drawn hS (by kernel_rfl) ?_);conv => whnf)
     exact ⟨_,rfl,Wk.refl _⟩
    ·refine pure_sym hE rfl (by repeat' (first | exact trivial | assumption | exact flat_no _ | exact (fun _ h => nomatch h) | apply And.intro)) (by repeat' (first | exact trivial | assumption | exact flat_no _ | exact (fun _ h => nomatch h) | apply And.intro)) fun S q pc hS hq hC hE => ?_
     conv => whnf
     repeat ((first
      |refine ko_rT (gd_tt e1) ?_
      |refine ko_sF (gd_tt e1) ?_
      |refine plan_as (pick_t (gd_tt e1)) ?_
      |refine bool_true (gd_tt e1) ?_
      |refine ko_rT (gd_tt e2) ?_
      |refine ko_sF (gd_tt e2) ?_
      |refine plan_as (pick_t (gd_tt e2)) ?_
      |refine bool_true (gd_tt e2) ?_
      |refine ko_rT e1 ?_
      |refine ko_sF e1 ?_
      |refine plan_as (pick_t e1) ?_
      |refine bool_true e1 ?_
      |refine ko_rT e2 ?_
      |refine ko_sF e2 ?_
      |refine plan_as (pick_t e2) ?_
      |refine bool_true e2 ?_
      |refine sym_pure hC (pP) ?_
      |refine sym_drawn hS (by kernel_rfl) ?_);conv => whnf)
     exact ⟨_,rfl,Wk.refl _⟩
  ·have e2:decide ((M.length:Int) ≤ 4) = false :=decide_eq_false (by omega)
   have hf:B = false :=hB.symm.trans (decide_eq_false fun z => h2 z.1.2.2)
   subst hf
   rcases hh with ⟨rfl,rfl⟩ | rfl
   ·exact absurd (Nat.zero_le _) h2
   ·rcases hx with ⟨rfl,rfl⟩ | rfl
    ·refine pure_sym hE rfl (by repeat' (first | exact trivial | assumption | exact flat_no _ | exact (fun _ h => nomatch h) | apply And.intro)) (by repeat' (first | exact trivial | assumption | exact flat_no _ | exact (fun _ h => nomatch h) | apply And.intro)) fun S q pc hS hq hC hE => ?_
     conv => whnf
     repeat ((first
      |refine ko_sT (gd_tf e2) ?_
      |refine ko_rF (gd_tf e2) ?_
      |refine plan_as (pick_f (gd_tf e2)) ?_
      |refine bool_false (gd_tf e2) ?_
      |refine ko_sT e2 ?_
      |refine ko_rF e2 ?_
      |refine plan_as (pick_f e2) ?_
      |refine bool_false e2 ?_
      |refine sym_drawn hS (by kernel_rfl) ?_);conv => whnf)
     exact ⟨_,rfl,Wk.refl _⟩
    ·refine pure_sym hE rfl (by repeat' (first | exact trivial | assumption | exact flat_no _ | exact (fun _ h => nomatch h) | apply And.intro)) (by repeat' (first | exact trivial | assumption | exact flat_no _ | exact (fun _ h => nomatch h) | apply And.intro)) fun S q pc hS hq hC hE => ?_
     conv => whnf
     repeat ((first
      |refine ko_rT (gd_tt e1) ?_
      |refine ko_sF (gd_tt e1) ?_
      |refine plan_as (pick_t (gd_tt e1)) ?_
      |refine bool_true (gd_tt e1) ?_
      |refine ko_sT (gd_tf e2) ?_
      |refine ko_rF (gd_tf e2) ?_
      |refine plan_as (pick_f (gd_tf e2)) ?_
      |refine bool_false (gd_tf e2) ?_
      |refine ko_rT e1 ?_
      |refine ko_sF e1 ?_
      |refine plan_as (pick_t e1) ?_
      |refine bool_true e1 ?_
      |refine ko_sT e2 ?_
      |refine ko_rF e2 ?_
      |refine plan_as (pick_f e2) ?_
      |refine bool_false e2 ?_
      |refine sym_drawn hS (by kernel_rfl) ?_);conv => whnf)
     exact ⟨_,rfl,Wk.refl _⟩
 ·have e1:decide ((L.length:Int) ≤ 5) = false :=decide_eq_false (by omega)
  have hf:B = false :=hB.symm.trans (decide_eq_false fun z => h1 z.1.1.2)
  subst hf
  rcases hx with ⟨rfl,rfl⟩ | rfl
  ·exact absurd (Nat.zero_le _) h1
  ·rcases hh with ⟨rfl,rfl⟩ | rfl
   ·refine pure_sym hE rfl (by repeat' (first | exact trivial | assumption | exact flat_no _ | exact (fun _ h => nomatch h) | apply And.intro)) (by repeat' (first | exact trivial | assumption | exact flat_no _ | exact (fun _ h => nomatch h) | apply And.intro)) fun S q pc hS hq hC hE => ?_
    conv => whnf
    repeat ((first
     |refine ko_sT (gd_tf e1) ?_
     |refine ko_rF (gd_tf e1) ?_
     |refine plan_as (pick_f (gd_tf e1)) ?_
     |refine bool_false (gd_tf e1) ?_
     |refine ko_sT e1 ?_
     |refine ko_rF e1 ?_
     |refine plan_as (pick_f e1) ?_
     |refine bool_false e1 ?_
     |refine sym_drawn hS (by kernel_rfl) ?_);conv => whnf)
    exact ⟨_,rfl,Wk.refl _⟩
   ·refine pure_sym hE rfl (by repeat' (first | exact trivial | assumption | exact flat_no _ | exact (fun _ h => nomatch h) | apply And.intro)) (by repeat' (first | exact trivial | assumption | exact flat_no _ | exact (fun _ h => nomatch h) | apply And.intro)) fun S q pc hS hq hC hE => ?_
    conv => whnf
    repeat ((first
     |refine ko_sT (gd_tf e1) ?_
     |refine ko_rF (gd_tf e1) ?_
     |refine plan_as (pick_f (gd_tf e1)) ?_
     |refine bool_false (gd_tf e1) ?_
     |refine ko_sT e1 ?_
     |refine ko_rF e1 ?_
     |refine plan_as (pick_f e1) ?_
     |refine bool_false e1 ?_
     |refine sym_drawn hS (by kernel_rfl) ?_);conv => whnf)
    exact ⟨_,rfl,Wk.refl _⟩
structure gsF (L:List (Nat × Nat)) (l m:Nat) (sp:List (Nat × Nat)) (nt:List Nat) (G:List (List Nat)) (r lo hi:Nat × Nat) (W:Int):Prop where
 pF:Pure prog 12 [pv (zp L),nv l,nv m] (fdA sp nt)
 pB:Pure prog 13 [fdA sp nt,pv (zp L)] (.tup [.nils,iv 0])
 pK:Pure prog 14 [fdA sp nt] (.tup [pv (zp (knL G sp.length)),iv 0])
 pT:Pure prog 15 [fdA sp nt] (.tup [qw lo,qw hi,iv 0])
 pE:Pure prog 16 [pv (zp L)] (nl (zl (teL L)))
 pL:Pure prog 11 [qw lo] (.bool true)
 pH:Pure prog 11 [qw hi] (.bool true)
 ln:(teL L).length = sp.length
 l6:sp.length ≤ 6
 kn:∀ i,i < sp.length → (gq (knL G sp.length) i).1 ≤ gn (teL L) i ∧ gn (teL L) i ≤ (gq (knL G sp.length) i).2
 p1:Pure prog 17 [qw r,qw lo] (.bool false)
 p2:Pure prog 17 [qw hi,qw r] (.bool false)
 pS:r.1 ≤ 50000 ∧ r.2 ≤ 50000 → Pure prog 19 [fdA sp nt,qw r] (.tup [iv W,iv 0])
 hW:W = 3 ∧ lo = hi ∨ W = 2 ∧ ¬ lo = hi
theorem gsF_of {L:List (Nat × Nat)} (h:AllT tN L) (hL:1 ≤ L.length ∧ L.length ≤ 3) {l m:Nat} (hlm:l + m ≤ 5):∃ sp nt G lo hi W,gsF L l m sp nt G (redF (xP L) (yP L)) lo hi W :=by
 have fd :=fd_own h hL hlm
 have hm :=own_mem h l m
 have hin :=own_in h l m
 have hle :=teL_len L
 obtain ⟨sp,hsp⟩ : ∃ sp,sp = spT l m (teL L) :=⟨_,rfl⟩
 obtain ⟨nt,hnt⟩ : ∃ nt,nt = smL L :=⟨_,rfl⟩
 have hsl:sp.length = (teL L).length :=by rw [hsp,spT_len]
 have hnl:nt.length = L.length :=by rw [hnt,smL_len]
 have pF :=find_pure (l :=l) (m :=m) (by omega) (by omega) L hL fun t ht => (teL_all h t ht).2
 have bk :=bk_own L
 rw [← hsp,← hnt] at fd hm pF
 rw [← hsp] at hin
 rw [← hnt] at bk
 obtain ⟨G,hG⟩ : ∃ G,gsL nt sp [] = G :=⟨_,rfl⟩
 have ok:∀ i,i < G.length → tOk (gT G i) ∧ (gT G i).length = sp.length :=fun i hi => gs_ok fd (by rw [hG];exact gT_mem hi)
 have gl:G.length ≤ 50000 :=by have :=gs_len fd;rw [hG] at this;exact this
 rw [hG] at hm
 obtain ⟨jT,hj,eT⟩ :=mem_gT hm
 have h1:1 ≤ G.length :=by omega
 have okG :=fun i hi => (ok i hi).1
 have eR:rdT (teL L) = redF (xP L) (yP L) :=by unfold rdT;rw [prL_teL]
 have pT :=gTurns_pure fd hG h1 gl okG
 have pK :=gKnown_pure fd hG h1 gl fun i hi => (ok i hi).2
 obtain ⟨jl,hjl,el⟩ :=bsI_mem (bt :=btB) (G :=G) G.length h1
 obtain ⟨jh,hjh,eh⟩ :=bsI_mem (bt :=btA) (G :=G) G.length h1
 have nl1 :=fun j hj => bsB_le okG G.length j (Nat.le_refl _) hj
 have nh1 :=fun j hj => bsA_le okG G.length j (Nat.le_refl _) hj
 obtain ⟨lo,hlo⟩ : ∃ lo,bsI btB G G.length = lo :=⟨_,rfl⟩
 obtain ⟨hi,hhi⟩ : ∃ hi,bsI btA G G.length = hi :=⟨_,rfl⟩
 obtain ⟨r,hr⟩ : ∃ r,r = redF (xP L) (yP L) :=⟨_,rfl⟩
 rw [← hr] at eR ⊢
 rw [hlo] at pT el nl1
 rw [hhi] at pT eh nh1
 have tl :=(okG jl hjl).tv
 have th :=(okG jh hjh).tv
 have tr :=(okG jT hj).tv
 rw [eT] at tr
 rw [eR] at tr
 rw [← el] at tl
 rw [← eh] at th
 have nlr:¬ ltF r lo :=by have :=nl1 jT hj;rw [eT,eR] at this;exact this
 have nhr:¬ ltF hi r :=by have :=nh1 jT hj;rw [eT,eR] at this;exact this
 have smIff:∀ j,j < G.length → (smQ G r j ↔ rdT (gT G j) = r) :=fun j hj2 => by
  have tj :=(okG j hj2).tv
  constructor
  ·rintro ⟨c1,c2⟩
   exact eqF tj.g tr.g tj.by_.1 (fun z => by rw [btA_lt.2 z] at c1;exact nomatch c1) fun z => by rw [btA_lt.2 z] at c2;exact nomatch c2
  ·intro e
   have c:btA r r = false :=(Bool.not_eq_true _).mp fun z => Nat.lt_irrefl _ (btA_lt.1 z)
   unfold smQ
   rw [e];exact ⟨c,c⟩
 have allIff:(∀ j,j < G.length → smQ G r j) ↔ lo = hi :=by
  constructor
  ·intro z
   rw [el,eh,(smIff jl hjl).1 (z jl hjl),(smIff jh hjh).1 (z jh hjh)]
  ·intro e j hj2
   rw [smIff j hj2]
   have tj :=(okG j hj2).tv
   have a1 :=nl1 j hj2
   have a2 :=nh1 j hj2
   rw [← e] at a2 nhr
   have e1:rdT (gT G j) = lo :=eqF tj.g tl.g tj.by_.1 a1 a2
   have e2:r = lo :=eqF tr.g tl.g tr.by_.1 nlr nhr
   rw [e1,e2]
 have bl:∀ {x y:Nat × Nat},1 ≤ x.1 ∧ x.1 ≤ 216000 → 1 ≤ y.2 ∧ y.2 ≤ 216000 → x.1 * y.2 < 4611686018427387904 :=fun {x y} hx hy => by
  have:x.1 * y.2 ≤ 216000 * 216000 :=Nat.mul_le_mul hx.2 hy.2
  omega
 refine ⟨sp,nt,G,lo,hi,if lo = hi then 3 else 2,pF,Breaks_pure fd L hnl.symm hin (by exact bk),pK,pT,teeth_pure L hL,big20_pure tl.bx tl.by_,big20_pure th.bx th.by_,hsl.symm,by omega,fun i hi2 => ?_,?_,?_,fun hr50 => ?_,?_⟩
 ·rw [knL_get G sp.length i hi2,← eT]
  exact knI_in G i G.length jT hj
 ·have :=rBelow_pure r.1 r.2 lo.1 lo.2 (bl tr.bx tl.by_) (bl tl.bx tr.by_)
  rw [decide_eq_false (show ¬ r.1 * lo.2 < lo.1 * r.2 from nlr)] at this
  exact this
 ·have :=rBelow_pure hi.1 hi.2 r.1 r.2 (bl th.bx tr.by_) (bl tr.bx th.by_)
  rw [decide_eq_false (show ¬ hi.1 * r.2 < r.1 * hi.2 from nhr)] at this
  exact this
 ·have :=gSure_pure fd hG h1 gl okG (x :=r) ⟨hr50.1,tr.by_.1,hr50.2⟩ ⟨jT,hj,(smIff jT hj).2 (by rw [eT,eR])⟩ (all :=decide (lo = hi)) (by rw [decide_eq_true_iff];exact allIff.symm)
  by_cases c:lo = hi
  ·rw [if_pos c];rw [decide_eq_true c] at this;exact this
  ·rw [if_neg c];rw [decide_eq_false c] at this;exact this
 ·by_cases c:lo = hi
  ·exact .inl ⟨if_pos c,c⟩
  ·exact .inr ⟨if_neg c,c⟩
end
end Go.Abs.Seat
