/-
  The law TrainWorst.
-/
import Derived.Test.YtpjclnoehlflcaaGreatDoorT82
import Derived.Test.YtpjclnoehlflcaaGreatDoorU16
import Derived.Test.YtpjclnoehlflcaaGreatDoorU17
/-! The law TrainWorst. -/
namespace Go.Abs.Seat
noncomputable section
open Go Go.Abs Go.Proofs.Tryz
set_option maxRecDepth 100000
set_option maxHeartbeats 40000000
attribute [local irreducible] IntKind.wrap pEq
theorem worst_none (hk:Pure prog 16 [] (.bool true)) {N:AV} {l:List Int} (hN:IL N l) (l8:l.length ≤ 8) (a b p s:Int) {Tl:List (Int × Int)} {M:List Int} (hM:M.length = Tl.length) (Q t:Nat) (pw:Pure prog 43 [pv Tl] (.bool true))
  (rR:Pure prog 32 [rv a b p s N] (.bool true)) (rG:Pure prog 45 [pv Tl] (.bool true)) (r1:Pure prog 46 [nv Q] (.bool true)) (rM:Pure prog 22 [nv t] (.bool true))
  (pS:Pure prog 44 [rv a b p s N,pv Tl,nv Q,nv t] (.tup [.nils,iv 0,iv 5])) {o:Option (List (List (Nat × Nat)))} (pO:Pure prog 50 [rv a b p s N,pv Tl,nl M] (shR o))
  (hO:∀ us,o = some us → Pure prog 51 [tlV us] (nv (smA 0 us)) ∧ Q < smA 0 us) :
  Pure prog 12 [rv a b p s N,pv Tl,nv Q,nv t,nl M] (.bool true) :=by
 have lN :=hN.no
 have lT :=flat_no Tl
 have lM :=ivs_no M
 have cM:((M.length:Int) != (Tl.length:Int)) = false :=by rw [hM];exact bne_self_eq_false _
 rcases o with _ | us
 ·have pO:Pure prog 50 [rv a b p s N,pv Tl,nl M] (.tup [.nils,.bool false]) :=pO
  rcases hN.cs with rfl | rfl
  all_goals
   refine zA fun S q pc hS hq hC hE => ?_
   conv=>whnf
   repeat ((first
    |refine sym_pure hC (slim_yes (by omega)) ?_
    |refine sym_pure hC (pw) ?_
    |refine sym_pure hC (rR) ?_
    |refine sym_pure hC (rG) ?_
    |refine sym_pure hC (r1) ?_
    |refine sym_pure hC (rM) ?_
    |rw [cM]
    |refine sym_pure hC (pS) ?_
    |refine sym_pure hC (pO) ?_
    |refine sym_pure hC (hk) ?_
    |refine zd hS ?_
    |refine sym_eq hq true (eqBool_same _ _) ?_
    |rw [beq_self_eq_true]
    |rw [bne_self_eq_false]);conv=>whnf)
   exact ⟨_,rfl,Wk.refl _⟩
 ·obtain ⟨pP,hQ⟩ :=hO us rfl
  have lu :=tls_no us
  have pO:Pure prog 50 [rv a b p s N,pv Tl,nl M] (.tup [tlV us,.bool true]) :=pO
  have c1:decide (Int.ofNat (smA 0 us) ≤ Int.ofNat Q) = false :=zF (by show ¬ ((smA 0 us:Nat):Int) ≤ (Q:Int);omega)
  rcases hN.cs with rfl | rfl
  all_goals
   refine zA fun S q pc hS hq hC hE => ?_
   conv=>whnf
   repeat ((first
    |refine sym_pure hC (slim_yes (by omega)) ?_
    |refine sym_pure hC (pw) ?_
    |refine sym_pure hC (rR) ?_
    |refine sym_pure hC (rG) ?_
    |refine sym_pure hC (r1) ?_
    |refine sym_pure hC (rM) ?_
    |rw [cM]
    |refine sym_pure hC (pS) ?_
    |refine sym_pure hC (pO) ?_
    |refine sym_pure hC (pP) ?_
    |refine sym_pure hC (hk) ?_
    |refine zd hS ?_
    |refine sym_eq hq true (eqBool_same _ _) ?_
    |rw [beq_self_eq_true]
    |rw [bne_self_eq_false]);conv=>whnf)
   have c2:(!decide (Int.ofNat (smA 0 us) ≤ Int.ofNat Q)) = true :=by rw [c1];rfl
   repeat ((first
    |refine ko_rT c2 ?_
    |refine ko_sF c2 ?_
    |refine plan_as (pick_t c2) ?_
    |refine bool_true c2 ?_
    |refine sym_pure hC (hk) ?_
    |refine zd hS ?_);conv=>whnf)
   exact ⟨_,rfl,Wk.refl _⟩
theorem worst_some (hk:Pure prog 16 [] (.bool true)) {N:AV} {l:List Int} (hN:IL N l) (l8:l.length ≤ 8) (a b p s:Int) {fs:List (Nat × Nat)} {M:List Int} (hM:M.length = (zp fs).length) (Q t:Nat) (pw:Pure prog 43 [pv (zp fs)] (.bool true))
  (rR:Pure prog 32 [rv a b p s N] (.bool true)) (rG:Pure prog 45 [pv (zp fs)] (.bool true)) (r1:Pure prog 46 [nv Q] (.bool true)) (rM:Pure prog 22 [nv t] (.bool true))
  (h3:fs.length ≤ 3) (hf:∀ f,f ∈ fs → f.1 ≤ 50000 ∧ 1 ≤ f.2 ∧ f.2 ≤ 50000) (ht:t ≤ 10000) {ls:List (List (Nat × Nat))} (hls:ls.length = fs.length) (hg:∀ u,u ∈ ls → gT u) (hQ:smA 0 ls ≤ Q)
  (pS:Pure prog 44 [rv a b p s N,pv (zp fs),nv Q,nv t] (.tup [tlV ls,nv (wrA t 0 fs ls),iv 0])) {o:Option (List (List (Nat × Nat)))} (pO:Pure prog 50 [rv a b p s N,pv (zp fs),nl M] (shR o))
  (hO:∀ us,o = some us → Pure prog 51 [tlV us] (nv (smA 0 us)) ∧ (smA 0 us ≤ Q → Pure prog 52 [tlV us,tlV ls,pv (zp fs),nv t] (.bool false))) :
  Pure prog 12 [rv a b p s N,pv (zp fs),nv Q,nv t,nl M] (.bool true) :=by
 have lN :=hN.no
 have lT :=flat_no (zp fs)
 have lM :=ivs_no M
 have hzf :=zp_len fs
 have lS :=tls_no ls
 have pP :=rPairs_pure ls (by omega) fun u hu => (hg u hu).2.1
 have cQ:decide (Int.ofNat (smA 0 ls) ≤ Int.ofNat Q) = true :=zT (by show ((smA 0 ls:Nat):Int) ≤ (Q:Int);omega)
 have cM:((M.length:Int) != ((zp fs).length:Int)) = false :=by rw [hM];exact bne_self_eq_false _
 have cL:((ls.length:Int) != ((zp fs).length:Int)) = false :=by rw [hzf,hls];exact bne_self_eq_false _
 rcases o with _ | us
 ·have pO:Pure prog 50 [rv a b p s N,pv (zp fs),nl M] (.tup [.nils,.bool false]) :=pO
  have lV:Live noL AV.nils :=trivial
  rcases hN.cs with rfl | rfl
  all_goals
   refine zA fun S q pc hS hq hC hE => ?_
   conv=>whnf
   repeat ((first
    |refine sym_pure hC (slim_yes (by omega)) ?_
    |refine sym_pure hC (pw) ?_
    |refine sym_pure hC (rR) ?_
    |refine sym_pure hC (rG) ?_
    |refine sym_pure hC (r1) ?_
    |refine sym_pure hC (rM) ?_
    |rw [cM]
    |refine sym_pure hC (pS) ?_
    |refine sym_pure hC (pO) ?_
    |rw [cL]
    |refine zd hS ?_
    |refine sym_eq hq true (eqBool_same _ _) ?_
    |rw [beq_self_eq_true]
    |rw [bne_self_eq_false]);conv=>whnf)
   refine sym_loop hE hS (A :=Nat × Nat) [1,2,3,11,12,14,15] (fun (i,w) => [(16,nv w),(17,nv i)]) (fun _ => []) (fun (i,w) => i ≤ ls.length ∧ wrA t w (fs.drop i) (ls.drop i) = wrA t 0 fs ls) (fun (i,_) => ls.length - i) (0,0) rfl rfl zD ⟨Nat.zero_le _,rfl⟩ ?_
   rintro ⟨i,w⟩ ⟨hi,he⟩
   have hi1:i < ls.length → IntKind.i64.wrap (Int.ofNat i + 1) = Int.ofNat (i + 1) :=fun h => wrapN (m :=i + 1) (by omega)
   conv=>whnf
   refine Or.elim (Classical.em (i < ls.length)) (fun h => ?_) (fun h => ?_)
   ·have hfi:i < fs.length :=by omega
    have hif:i < (zp fs).length :=by omega
    have hu :=hg _ (gt_mem ls h)
    have hb :=hf _ (gq_mem fs hfi)
    have b :=off_le (n :=(gq fs i).1) (d :=(gq fs i).2) (t :=t) hb.1 hb.2.2 hu.2.2.bx.2 hu.2.2.by_.2 ht
    have pr :=hu.2.2.rT
    have po :=off_pure hu.2.2 (gq fs i).1 (gq fs i).2 t hb.1 hb.2 ht
    have n1:nth (tls ls) (i * 1) = some (pv (zp (gt ls i))) :=by rw [Nat.mul_one];exact nth_tls ls i h
    have lu :=flat_no (zp (gt ls i))
    rw [drop_gt ls h,drop_gq fs hfi,wrA] at he
    have hm:maxI (Int.ofNat w) (maxI (offV (redF (xP (gt ls i)) (yP (gt ls i))).1 (redF (xP (gt ls i)) (yP (gt ls i))).2 (gq fs i).1 (gq fs i).2 t) (IntKind.i64.wrap (0 - offV (redF (xP (gt ls i)) (yP (gt ls i))).1 (redF (xP (gt ls i)) (yP (gt ls i))).2 (gq fs i).1 (gq fs i).2 t))) = Int.ofNat (max w (wfN t (gq fs i) (gt ls i))) :=abs_max2 (by show (redF (xP (gt ls i)) (yP (gt ls i))).1 * (gq fs i).2 * t * 21600 < _;omega) (by show (gq fs i).1 * (redF (xP (gt ls i)) (yP (gt ls i))).2 * t * 21600 < _;omega)
    have c1:decide (Int.ofNat i < (ls.length:Int)) = true :=zT (by show (i:Int) < _;omega)
    repeat ((first
     |refine plan_as (nthP n1) ?_
     |refine plan_as (takP (tak_zp fs hfi)) ?_
     |refine ko_rT c1 ?_
     |refine ko_sF c1 ?_
     |refine plan_as (pick_t c1) ?_
     |refine bool_true c1 ?_
     |refine ko_rT (inR_t h) ?_
     |refine ko_sF (inR_t h) ?_
     |refine plan_as (pick_t (inR_t h)) ?_
     |refine bool_true (inR_t h) ?_
     |refine ko_rT (inR_t hif) ?_
     |refine ko_sF (inR_t hif) ?_
     |refine plan_as (pick_t (inR_t hif)) ?_
     |refine bool_true (inR_t hif) ?_
     |refine sym_pure hC (pr) ?_
     |refine sym_pure hC (po) ?_
     |refine zd hS ?_);conv=>whnf)
    exact ⟨(i + 1,max w (wfN t (gq fs i) (gt ls i))),⟨h,he⟩,by show ls.length - (i + 1) < ls.length - i;omega,(by refine ⟨rfl,rfl,rfl,rfl,?_,?_⟩ <;> repeat' (first | exact congrArg (fun z => some (AV.int .i64 z)) (hi1 h) | exact congrArg (fun z => some (AV.int .i64 z)) hm | exact zZ | apply And.intro))⟩
   have c1:decide (Int.ofNat i < (ls.length:Int)) = false :=zF (by show ¬ (i:Int) < _;omega)
   rw [drop_nil_gt (l :=ls) (by omega),show wrA t w (fs.drop i) [] = w by cases fs.drop i <;> rfl] at he
   have cE:(Int.ofNat w == Int.ofNat (wrA t 0 fs ls)) = true :=by rw [he];exact beq_self_eq_true _
   repeat ((first
    |refine ko_sT c1 ?_
    |refine ko_rF c1 ?_
    |refine plan_as (pick_f c1) ?_
    |refine bool_false c1 ?_
    |refine ko_rT cE ?_
    |refine ko_sF cE ?_
    |refine plan_as (pick_t cE) ?_
    |refine bool_true cE ?_
    |refine ko_rT cQ ?_
    |refine ko_sF cQ ?_
    |refine plan_as (pick_t cQ) ?_
    |refine bool_true cQ ?_
    |refine sym_pure hC (pP) ?_
    |refine sym_pure hC (hk) ?_
    |refine zd hS ?_);conv=>whnf)
   exact ⟨_,rfl,Wk.refl _⟩
 ·obtain ⟨pU,hU⟩ :=hO us rfl
  have lu :=tls_no us
  have lV:Live noL (tlV us) :=⟨lu,fun _ h => nomatch h⟩
  have pO:Pure prog 50 [rv a b p s N,pv (zp fs),nl M] (.tup [tlV us,.bool true]) :=pO
  by_cases hc:smA 0 us ≤ Q
  ·have hU :=hU hc
   have c2:decide (Int.ofNat (smA 0 us) ≤ Int.ofNat Q) = true :=zT (by show ((smA 0 us:Nat):Int) ≤ (Q:Int);omega)
   have c3:(!decide (Int.ofNat (smA 0 us) ≤ Int.ofNat Q)) = false :=by rw [c2];rfl
   rcases hN.cs with rfl | rfl
   all_goals
    refine zA fun S q pc hS hq hC hE => ?_
    conv=>whnf
    repeat ((first
     |refine sym_pure hC (slim_yes (by omega)) ?_
     |refine sym_pure hC (pw) ?_
     |refine sym_pure hC (rR) ?_
     |refine sym_pure hC (rG) ?_
     |refine sym_pure hC (r1) ?_
     |refine sym_pure hC (rM) ?_
     |rw [cM]
     |refine sym_pure hC (pS) ?_
     |refine sym_pure hC (pO) ?_
     |refine sym_pure hC (pU) ?_
     |rw [cL]
     |refine zd hS ?_
     |refine sym_eq hq true (eqBool_same _ _) ?_
     |rw [beq_self_eq_true]
     |rw [bne_self_eq_false]);conv=>whnf)
    refine sym_loop hE hS (A :=Nat × Nat) [1,2,3,11,12,14,15] (fun (i,w) => [(16,nv w),(17,nv i)]) (fun _ => []) (fun (i,w) => i ≤ ls.length ∧ wrA t w (fs.drop i) (ls.drop i) = wrA t 0 fs ls) (fun (i,_) => ls.length - i) (0,0) rfl rfl zD ⟨Nat.zero_le _,rfl⟩ ?_
    rintro ⟨i,w⟩ ⟨hi,he⟩
    have hi1:i < ls.length → IntKind.i64.wrap (Int.ofNat i + 1) = Int.ofNat (i + 1) :=fun h => wrapN (m :=i + 1) (by omega)
    conv=>whnf
    refine Or.elim (Classical.em (i < ls.length)) (fun h => ?_) (fun h => ?_)
    ·have hfi:i < fs.length :=by omega
     have hif:i < (zp fs).length :=by omega
     have hu :=hg _ (gt_mem ls h)
     have hb :=hf _ (gq_mem fs hfi)
     have b :=off_le (n :=(gq fs i).1) (d :=(gq fs i).2) (t :=t) hb.1 hb.2.2 hu.2.2.bx.2 hu.2.2.by_.2 ht
     have pr :=hu.2.2.rT
     have po :=off_pure hu.2.2 (gq fs i).1 (gq fs i).2 t hb.1 hb.2 ht
     have n1:nth (tls ls) (i * 1) = some (pv (zp (gt ls i))) :=by rw [Nat.mul_one];exact nth_tls ls i h
     have lu :=flat_no (zp (gt ls i))
     rw [drop_gt ls h,drop_gq fs hfi,wrA] at he
     have hm:maxI (Int.ofNat w) (maxI (offV (redF (xP (gt ls i)) (yP (gt ls i))).1 (redF (xP (gt ls i)) (yP (gt ls i))).2 (gq fs i).1 (gq fs i).2 t) (IntKind.i64.wrap (0 - offV (redF (xP (gt ls i)) (yP (gt ls i))).1 (redF (xP (gt ls i)) (yP (gt ls i))).2 (gq fs i).1 (gq fs i).2 t))) = Int.ofNat (max w (wfN t (gq fs i) (gt ls i))) :=abs_max2 (by show (redF (xP (gt ls i)) (yP (gt ls i))).1 * (gq fs i).2 * t * 21600 < _;omega) (by show (gq fs i).1 * (redF (xP (gt ls i)) (yP (gt ls i))).2 * t * 21600 < _;omega)
     have c1:decide (Int.ofNat i < (ls.length:Int)) = true :=zT (by show (i:Int) < _;omega)
     repeat ((first
      |refine plan_as (nthP n1) ?_
      |refine plan_as (takP (tak_zp fs hfi)) ?_
      |refine ko_rT c1 ?_
      |refine ko_sF c1 ?_
      |refine plan_as (pick_t c1) ?_
      |refine bool_true c1 ?_
      |refine ko_rT (inR_t h) ?_
      |refine ko_sF (inR_t h) ?_
      |refine plan_as (pick_t (inR_t h)) ?_
      |refine bool_true (inR_t h) ?_
      |refine ko_rT (inR_t hif) ?_
      |refine ko_sF (inR_t hif) ?_
      |refine plan_as (pick_t (inR_t hif)) ?_
      |refine bool_true (inR_t hif) ?_
      |refine sym_pure hC (pr) ?_
      |refine sym_pure hC (po) ?_
      |refine zd hS ?_);conv=>whnf)
     exact ⟨(i + 1,max w (wfN t (gq fs i) (gt ls i))),⟨h,he⟩,by show ls.length - (i + 1) < ls.length - i;omega,(by refine ⟨rfl,rfl,rfl,rfl,?_,?_⟩ <;> repeat' (first | exact congrArg (fun z => some (AV.int .i64 z)) (hi1 h) | exact congrArg (fun z => some (AV.int .i64 z)) hm | exact zZ | apply And.intro))⟩
    have c1:decide (Int.ofNat i < (ls.length:Int)) = false :=zF (by show ¬ (i:Int) < _;omega)
    rw [drop_nil_gt (l :=ls) (by omega),show wrA t w (fs.drop i) [] = w by cases fs.drop i <;> rfl] at he
    have cE:(Int.ofNat w == Int.ofNat (wrA t 0 fs ls)) = true :=by rw [he];exact beq_self_eq_true _
    repeat ((first
     |refine ko_sT c1 ?_
     |refine ko_rF c1 ?_
     |refine plan_as (pick_f c1) ?_
     |refine bool_false c1 ?_
     |refine ko_rT cE ?_
     |refine ko_sF cE ?_
     |refine plan_as (pick_t cE) ?_
     |refine bool_true cE ?_
     |refine ko_rT cQ ?_
     |refine ko_sF cQ ?_
     |refine plan_as (pick_t cQ) ?_
     |refine bool_true cQ ?_
     |refine ko_sT c3 ?_
     |refine ko_rF c3 ?_
     |refine plan_as (pick_f c3) ?_
     |refine bool_false c3 ?_
     |refine sym_pure hC (pP) ?_
     |refine sym_pure hC (hk) ?_
     |refine sym_pure hC (hU) ?_
     |refine zd hS ?_);conv=>whnf)
    exact ⟨_,rfl,Wk.refl _⟩
  ·have c2:decide (Int.ofNat (smA 0 us) ≤ Int.ofNat Q) = false :=zF (by show ¬ ((smA 0 us:Nat):Int) ≤ (Q:Int);omega)
   have c3:(!decide (Int.ofNat (smA 0 us) ≤ Int.ofNat Q)) = true :=by rw [c2];rfl
   rcases hN.cs with rfl | rfl
   all_goals
    refine zA fun S q pc hS hq hC hE => ?_
    conv=>whnf
    repeat ((first
     |refine sym_pure hC (slim_yes (by omega)) ?_
     |refine sym_pure hC (pw) ?_
     |refine sym_pure hC (rR) ?_
     |refine sym_pure hC (rG) ?_
     |refine sym_pure hC (r1) ?_
     |refine sym_pure hC (rM) ?_
     |rw [cM]
     |refine sym_pure hC (pS) ?_
     |refine sym_pure hC (pO) ?_
     |refine sym_pure hC (pU) ?_
     |rw [cL]
     |refine zd hS ?_
     |refine sym_eq hq true (eqBool_same _ _) ?_
     |rw [beq_self_eq_true]
     |rw [bne_self_eq_false]);conv=>whnf)
    refine sym_loop hE hS (A :=Nat × Nat) [1,2,3,11,12,14,15] (fun (i,w) => [(16,nv w),(17,nv i)]) (fun _ => []) (fun (i,w) => i ≤ ls.length ∧ wrA t w (fs.drop i) (ls.drop i) = wrA t 0 fs ls) (fun (i,_) => ls.length - i) (0,0) rfl rfl zD ⟨Nat.zero_le _,rfl⟩ ?_
    rintro ⟨i,w⟩ ⟨hi,he⟩
    have hi1:i < ls.length → IntKind.i64.wrap (Int.ofNat i + 1) = Int.ofNat (i + 1) :=fun h => wrapN (m :=i + 1) (by omega)
    conv=>whnf
    refine Or.elim (Classical.em (i < ls.length)) (fun h => ?_) (fun h => ?_)
    ·have hfi:i < fs.length :=by omega
     have hif:i < (zp fs).length :=by omega
     have hu :=hg _ (gt_mem ls h)
     have hb :=hf _ (gq_mem fs hfi)
     have b :=off_le (n :=(gq fs i).1) (d :=(gq fs i).2) (t :=t) hb.1 hb.2.2 hu.2.2.bx.2 hu.2.2.by_.2 ht
     have pr :=hu.2.2.rT
     have po :=off_pure hu.2.2 (gq fs i).1 (gq fs i).2 t hb.1 hb.2 ht
     have n1:nth (tls ls) (i * 1) = some (pv (zp (gt ls i))) :=by rw [Nat.mul_one];exact nth_tls ls i h
     have lu :=flat_no (zp (gt ls i))
     rw [drop_gt ls h,drop_gq fs hfi,wrA] at he
     have hm:maxI (Int.ofNat w) (maxI (offV (redF (xP (gt ls i)) (yP (gt ls i))).1 (redF (xP (gt ls i)) (yP (gt ls i))).2 (gq fs i).1 (gq fs i).2 t) (IntKind.i64.wrap (0 - offV (redF (xP (gt ls i)) (yP (gt ls i))).1 (redF (xP (gt ls i)) (yP (gt ls i))).2 (gq fs i).1 (gq fs i).2 t))) = Int.ofNat (max w (wfN t (gq fs i) (gt ls i))) :=abs_max2 (by show (redF (xP (gt ls i)) (yP (gt ls i))).1 * (gq fs i).2 * t * 21600 < _;omega) (by show (gq fs i).1 * (redF (xP (gt ls i)) (yP (gt ls i))).2 * t * 21600 < _;omega)
     have c1:decide (Int.ofNat i < (ls.length:Int)) = true :=zT (by show (i:Int) < _;omega)
     repeat ((first
      |refine plan_as (nthP n1) ?_
      |refine plan_as (takP (tak_zp fs hfi)) ?_
      |refine ko_rT c1 ?_
      |refine ko_sF c1 ?_
      |refine plan_as (pick_t c1) ?_
      |refine bool_true c1 ?_
      |refine ko_rT (inR_t h) ?_
      |refine ko_sF (inR_t h) ?_
      |refine plan_as (pick_t (inR_t h)) ?_
      |refine bool_true (inR_t h) ?_
      |refine ko_rT (inR_t hif) ?_
      |refine ko_sF (inR_t hif) ?_
      |refine plan_as (pick_t (inR_t hif)) ?_
      |refine bool_true (inR_t hif) ?_
      |refine sym_pure hC (pr) ?_
      |refine sym_pure hC (po) ?_
      |refine zd hS ?_);conv=>whnf)
     exact ⟨(i + 1,max w (wfN t (gq fs i) (gt ls i))),⟨h,he⟩,by show ls.length - (i + 1) < ls.length - i;omega,(by refine ⟨rfl,rfl,rfl,rfl,?_,?_⟩ <;> repeat' (first | exact congrArg (fun z => some (AV.int .i64 z)) (hi1 h) | exact congrArg (fun z => some (AV.int .i64 z)) hm | exact zZ | apply And.intro))⟩
    have c1:decide (Int.ofNat i < (ls.length:Int)) = false :=zF (by show ¬ (i:Int) < _;omega)
    rw [drop_nil_gt (l :=ls) (by omega),show wrA t w (fs.drop i) [] = w by cases fs.drop i <;> rfl] at he
    have cE:(Int.ofNat w == Int.ofNat (wrA t 0 fs ls)) = true :=by rw [he];exact beq_self_eq_true _
    repeat ((first
     |refine ko_sT c1 ?_
     |refine ko_rF c1 ?_
     |refine plan_as (pick_f c1) ?_
     |refine bool_false c1 ?_
     |refine ko_rT cE ?_
     |refine ko_sF cE ?_
     |refine plan_as (pick_t cE) ?_
     |refine bool_true cE ?_
     |refine ko_rT cQ ?_
     |refine ko_sF cQ ?_
     |refine plan_as (pick_t cQ) ?_
     |refine bool_true cQ ?_
     |refine ko_rT c3 ?_
     |refine ko_sF c3 ?_
     |refine plan_as (pick_t c3) ?_
     |refine bool_true c3 ?_
     |refine sym_pure hC (pP) ?_
     |refine sym_pure hC (hk) ?_
     |refine zd hS ?_);conv=>whnf)
    exact ⟨_,rfl,Wk.refl _⟩
end
end Go.Abs.Seat
