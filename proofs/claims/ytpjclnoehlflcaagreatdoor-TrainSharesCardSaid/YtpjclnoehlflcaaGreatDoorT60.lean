/-
  Rules without teeth, prepared: printed by genE.py.
-/
import Derived.Test.YtpjclnoehlflcaaGreatDoorU9
namespace Go.Abs.Seat
noncomputable section
open Go Go.Abs Go.Proofs.Tryz
set_option maxRecDepth 100000
set_option maxHeartbeats 40000000
attribute [local irreducible] IntKind.wrap pEq
def eS:Nat → List AV
 | 0 => [.lst [nv 1] 1 .no]
 |k + 1 => eS k ++ [.nils]
theorem qrz:∀ k,Lives noL (eS k)
 | 0 => ⟨⟨⟨trivial,trivial⟩,fun _ h => nomatch h⟩,trivial⟩
 |k + 1 => qgd (qrz k) ⟨trivial,trivial⟩
theorem q13 (k:Nat):(fun _ => False) = qak (fun _ => False) (k + 1) :=funext fun _ => propext ⟨False.elim,fun ⟨_,_,_,h,_⟩ => h⟩
theorem mk_F {t:Tr AV} {m:Nat} (k:Nat) (h:∀ j,t.get j = if j < m then some (.bool false) else none):Mk t m (qak (fun _ => False) (k + 1)) :=by
 have :=Mk.none h
 rwa [q13 k] at this
abbrev prE:Nat → List AV :=prM (fun _ => False)
def whE (a b:Int) (p:Nat) (s:Int) (N:AV):AV :=.agg [iv a,iv b,nv p,iv s,N,.nils,.lst (eS p) (p + 1) .no,.lst (prE p) (p + 1) .no]
theorem finE {o:Nat → AObj} {a b s:Int} {p r k d:Nat} {N x:AV} {us:List AV} (lN:Live noL N) (hp:p = r) (h:wk x = .lst (eS r) (r + 1) .no) (hk:k = r + 1) (hu:FzVs o us (prE r)) :
  FzV o (.agg [iv a,iv b,nv p,iv s,N,.nils,x,.lst us k (.ch d)]) (whE a b p s N) :=by
 subst hp hk
 unfold whE
 exact FzV.agg ⟨.no trivial,.no trivial,.no trivial,.no trivial,.no lN,.no trivial,FzV.ofWk (by rw [← h];exact Wk.wk x) (FzV.no (show Live noL (.lst (eS p) (p + 1) .no) from ⟨qrz p,fun _ e => nomatch e⟩)),FzV.lst (ys :=prE p) hu (p + 1) _,trivial⟩
theorem q2g {o:Nat → AObj} {a b s:Int} {p d:Nat} {N x:AV} (lN:Live noL N) (hp:p = 1) (h:wk x = .lst (eS 1) 2 .no) {i0 y0 i1 m1 y1:Nat} {t1:Tr AV} (h0:o i0 = .cells (.node (.bool false) (.node (.bool true) .nil .nil) .nil) 2 y0) (ho1:o i1 = .cells t1 m1 y1) (hm1:∀ j,t1.get j = if j < 61 then some (.bool false) else none) (em1:m1 = 61) :
  FzV o (.agg [iv a,iv b,nv p,iv s,N,.nils,x,.lst [.slc i0 0 2 2,.slc i1 0 m1 m1] 2 (.ch d)]) (whE a b p s N) :=by
 subst em1
 exact finE lN hp h rfl ⟨fz_M h0 qg2,fz_M ho1 (mk_F 0 hm1),trivial⟩
theorem q2f {o:Nat → AObj} {a b s:Int} {p d:Nat} {N x:AV} (lN:Live noL N) (hp:p = 2) (h:wk x = .lst (eS 2) 3 .no) {i0 y0 i1 m1 y1 i2 m2 y2:Nat} {t1 t2:Tr AV} (h0:o i0 = .cells (.node (.bool false) (.node (.bool true) .nil .nil) .nil) 2 y0) (ho1:o i1 = .cells t1 m1 y1) (hm1:∀ j,t1.get j = if j < 61 then some (.bool false) else none) (em1:m1 = 61) (ho2:o i2 = .cells t2 m2 y2) (hm2:∀ j,t2.get j = if j < 3601 then some (.bool false) else none) (em2:m2 = 3601) :
  FzV o (.agg [iv a,iv b,nv p,iv s,N,.nils,x,.lst [.slc i0 0 2 2,.slc i1 0 m1 m1,.slc i2 0 m2 m2] 3 (.ch d)]) (whE a b p s N) :=by
 subst em1 em2
 exact finE lN hp h rfl ⟨fz_M h0 qg2,fz_M ho1 (mk_F 0 hm1),fz_M ho2 (mk_F 1 hm2),trivial⟩
theorem q2e {o:Nat → AObj} {a b s:Int} {p d:Nat} {N x:AV} (lN:Live noL N) (hp:p = 3) (h:wk x = .lst (eS 3) 4 .no) {i0 y0 i1 m1 y1 i2 m2 y2 i3 m3 y3:Nat} {t1 t2 t3:Tr AV} (h0:o i0 = .cells (.node (.bool false) (.node (.bool true) .nil .nil) .nil) 2 y0) (ho1:o i1 = .cells t1 m1 y1) (hm1:∀ j,t1.get j = if j < 61 then some (.bool false) else none) (em1:m1 = 61) (ho2:o i2 = .cells t2 m2 y2) (hm2:∀ j,t2.get j = if j < 3601 then some (.bool false) else none) (em2:m2 = 3601) (ho3:o i3 = .cells t3 m3 y3) (hm3:∀ j,t3.get j = if j < 216001 then some (.bool false) else none) (em3:m3 = 216001) :
  FzV o (.agg [iv a,iv b,nv p,iv s,N,.nils,x,.lst [.slc i0 0 2 2,.slc i1 0 m1 m1,.slc i2 0 m2 m2,.slc i3 0 m3 m3] 4 (.ch d)]) (whE a b p s N) :=by
 subst em1 em2 em3
 exact finE lN hp h rfl ⟨fz_M h0 qg2,fz_M ho1 (mk_F 0 hm1),fz_M ho2 (mk_F 1 hm2),fz_M ho3 (mk_F 2 hm3),trivial⟩
theorem qsc {a b:Int} {p:Nat} {s:Int} {N:AV} (h:Live noL N):Live noL (whE a b p s N) :=
 show Live noL (.agg [_,_,_,_,_,_,_,_]) from ⟨trivial,trivial,trivial,trivial,h,trivial,⟨qrz p,fun _ e => nomatch e⟩,⟨qe5 _ p,fun _ e => nomatch e⟩,trivial⟩
theorem slG1:AObj.cells (.node (.slc 26 0 (IntKind.i64.wrap (60 + 1)).toNat (IntKind.i64.wrap (60 + 1)).toNat) .nil .nil) 1 164 = AObj.cells (.node (.slc 26 0 61 61) .nil .nil) 1 164 :=by
 rw [show IntKind.i64.wrap (60 + 1) = 61 from qas (by decide) (by decide)];rfl
theorem slV1:WkV (.slc 26 0 (IntKind.i64.wrap (60 + 1)).toNat (IntKind.i64.wrap (60 + 1)).toNat) (.slc 26 0 61 61) :=by
 rw [show IntKind.i64.wrap (60 + 1) = 61 from qas (by decide) (by decide)];exact WkV.refl _
theorem slW1:WkV (.int .i64 (IntKind.i64.wrap (60 + 1))) (nv 61) :=by
 rw [show IntKind.i64.wrap (60 + 1) = 61 from qas (by decide) (by decide)];exact WkV.refl _
theorem slX1:WkV (.int .i64 ((IntKind.i64.wrap (60 + 1)).toNat:Int)) (nv 61) :=by
 rw [show IntKind.i64.wrap (60 + 1) = 61 from qas (by decide) (by decide)];exact WkV.refl _
theorem slG2:AObj.cells (.node (.slc 48 0 (IntKind.i64.wrap (3600 + 1)).toNat (IntKind.i64.wrap (3600 + 1)).toNat) .nil .nil) 1 164 = AObj.cells (.node (.slc 48 0 3601 3601) .nil .nil) 1 164 :=by
 rw [show IntKind.i64.wrap (3600 + 1) = 3601 from qas (by decide) (by decide)];rfl
theorem slV2:WkV (.slc 48 0 (IntKind.i64.wrap (3600 + 1)).toNat (IntKind.i64.wrap (3600 + 1)).toNat) (.slc 48 0 3601 3601) :=by
 rw [show IntKind.i64.wrap (3600 + 1) = 3601 from qas (by decide) (by decide)];exact WkV.refl _
theorem slW2:WkV (.int .i64 (IntKind.i64.wrap (3600 + 1))) (nv 3601) :=by
 rw [show IntKind.i64.wrap (3600 + 1) = 3601 from qas (by decide) (by decide)];exact WkV.refl _
theorem slX2:WkV (.int .i64 ((IntKind.i64.wrap (3600 + 1)).toNat:Int)) (nv 3601) :=by
 rw [show IntKind.i64.wrap (3600 + 1) = 3601 from qas (by decide) (by decide)];exact WkV.refl _
theorem slG3:AObj.cells (.node (.slc 70 0 (IntKind.i64.wrap (216000 + 1)).toNat (IntKind.i64.wrap (216000 + 1)).toNat) .nil .nil) 1 164 = AObj.cells (.node (.slc 70 0 216001 216001) .nil .nil) 1 164 :=by
 rw [show IntKind.i64.wrap (216000 + 1) = 216001 from qas (by decide) (by decide)];rfl
theorem slV3:WkV (.slc 70 0 (IntKind.i64.wrap (216000 + 1)).toNat (IntKind.i64.wrap (216000 + 1)).toNat) (.slc 70 0 216001 216001) :=by
 rw [show IntKind.i64.wrap (216000 + 1) = 216001 from qas (by decide) (by decide)];exact WkV.refl _
theorem slW3:WkV (.int .i64 (IntKind.i64.wrap (216000 + 1))) (nv 216001) :=by
 rw [show IntKind.i64.wrap (216000 + 1) = 216001 from qas (by decide) (by decide)];exact WkV.refl _
theorem slX3:WkV (.int .i64 ((IntKind.i64.wrap (216000 + 1)).toNat:Int)) (nv 216001) :=by
 rw [show IntKind.i64.wrap (216000 + 1) = 216001 from qas (by decide) (by decide)];exact WkV.refl _
theorem qy6 {N:AV} {l:List Int} (hN:IL N l) (a b:Nat) (s:Int) (p:Nat) (hp:1 ≤ p ∧ p ≤ 3) :
  Pure prog 93 [ruv (Int.ofNat a) (Int.ofNat b) (Int.ofNat p) s N .nils] (whE (Int.ofNat a) (Int.ofNat b) p s N) :=by
 have lN :=hN.no
 have lU:Live noL (ruv (Int.ofNat a) (Int.ofNat b) (Int.ofNat p) s N .nils) :=⟨trivial,trivial,trivial,trivial,lN,trivial,trivial⟩
 have lU8:Live noL (.agg [iv (Int.ofNat a),iv (Int.ofNat b),iv (Int.ofNat p),iv s,N,.nils,.nils,.nils]) :=⟨trivial,trivial,trivial,trivial,lN,trivial,trivial,trivial,trivial⟩
 have lE :=qsc (a :=Int.ofNat a) (b :=Int.ofNat b) (s :=s) (p :=p) lN
 have hp1:IntKind.i64.wrap (Int.ofNat p + 1) = Int.ofNat (p + 1) :=qa2 (m :=p + 1) (by omega)
 rcases hN.cs with rfl | rfl
 all_goals
  refine qef hE rfl zL lE fun S q pc hS hq hC hE => ?_
  conv=>whnf
  repeat (first | (refine qb7 ?_;conv=>whnf) | (refine qaa (by rcases hNs with rfl | rfl <;> exact rfl) ?_;conv=>whnf))
  refine qae hE hS ?_
  conv=>whnf
  refine qaa ((show decide (0 < IntKind.i64.wrap (Int.ofNat p + 1)) = true by rw [hp1];exact qch (a :=0) (Nat.succ_pos p))) ?_
  conv=>whnf
  refine qab hC (rep0) ?_
  conv=>whnf
  refine qab hC (pro0) ?_
  conv=>whnf
  rw [show IntKind.i64.wrap (1 + 1) = 2 from qas (by decide) (by decide)]
  conv=>whnf
  repeat (first | (refine qb7 ?_;conv=>whnf) | (refine qaa (by rcases hNs with rfl | rfl <;> exact rfl) ?_;conv=>whnf))
  refine qat hC ?_
  conv=>whnf
  refine qap hE hS ?_
  conv=>whnf
  repeat (first | (refine qb7 ?_;conv=>whnf) | (refine qaa (by rcases hNs with rfl | rfl <;> exact rfl) ?_;conv=>whnf))
  refine qap hE hS ?_
  conv=>whnf
  refine qat hC ?_
  conv=>whnf
  refine qap hE hS ?_
  conv=>whnf
  refine qau hE hS ?_
  conv=>whnf
  refine qau hE hS ?_
  conv=>whnf
  refine qae hE hS ?_
  conv=>whnf
  rw [show IntKind.i64.wrap (0 + 1) = 1 from qas (by decide) (by decide)]
  conv=>whnf
  refine qae hE hS ?_
  conv=>whnf
  rw [show IntKind.i64.wrap (1 + 1) = 2 from qas (by decide) (by decide)]
  conv=>whnf
  refine qae hE hS ?_
  conv=>whnf
  refine zd hS ?_
  conv=>whnf
  refine qa1 16 rfl (show AV.int .i64 (IntKind.i64.wrap (0 + 1)) = nv 1 from congrArg (AV.int .i64) (qas (by decide) (by decide))) ?_
  refine qae hE hS ?_
  conv=>whnf
  refine qaa ((show decide (1 < IntKind.i64.wrap (Int.ofNat p + 1)) = true by rw [hp1];exact qch (a :=1) (by omega))) ?_
  conv=>whnf
  refine qab hC (rep1) ?_
  conv=>whnf
  refine qab hC (pro1) ?_
  conv=>whnf
  with_unfolding_all (conv=>whnf)
  intro t ht
  have ht1:∀ j,t.get j = if j < 61 then some (.bool false) else none :=ht
  conv=>whnf
  repeat (first | (refine qb7 ?_;conv=>whnf) | (refine qaa (by rcases hNs with rfl | rfl <;> exact rfl) ?_;conv=>whnf))
  refine qat hC ?_
  conv=>whnf
  refine qap hE hS ?_
  conv=>whnf
  repeat (first | (refine qb7 ?_;conv=>whnf) | (refine qaa (by rcases hNs with rfl | rfl <;> exact rfl) ?_;conv=>whnf))
  refine qap hE hS ?_
  conv=>whnf
  refine qat hC ?_
  conv=>whnf
  refine qap hE hS ?_
  conv=>whnf
  refine qae hE hS ?_
  conv=>whnf
  have hm1 :=Mk.none ht1
  refine qb3 hE hS (A :=Nat × Nat) [] (fun x hx => hx) [1,2,3,5,15,16] (fun (x,m) => [(7,.nils),(32,.slc 26 0 m m),(33,nv m),(34,nv x)]) (fun (_,m) => [(26,.cells t m 4),(27,.cells (.node (.slc 26 0 m m) .nil .nil) 1 164)]) (fun _ => []) (fun (x,m) => m = 61 ∧ x ≤ m) (fun (x,_) => 61 - x) (0,61) (Nat.le_of_ble_eq_true rfl) (by repeat' (first | exact trivial | exact Nat.lt_of_lt_of_le (Nat.lt_succ_self _) (Nat.le_of_ble_eq_true rfl) | apply And.intro)) rfl (by refine ⟨rfl,rfl,rfl,rfl,rfl,rfl,34,rfl,?_,?_,?_,?_,by kernel_rfl⟩ <;> repeat' (first | exact bz lU | exact bz lU8 | exact bz lN | exact Mk.bd hm1 | exact slG1 | exact OWk.eq slG1 | exact ⟨_,rfl,slV1⟩ | exact ⟨_,rfl,slW1⟩ | exact ⟨_,rfl,slX1⟩ | exact zZ | apply And.intro)) ⟨rfl,Nat.zero_le _⟩ ?_
  rintro ⟨x,m1⟩ ⟨em1,hx⟩ K hK
  obtain rfl:K = 34 :=hK
  have hx1:x ≤ 61 → IntKind.i64.wrap (Int.ofNat x + 1) = Int.ofNat (x + 1) :=fun h => qa2 (m :=x + 1) (by omega)
  conv=>whnf
  by_cases hx2:x < m1
  ·have hg:t.get (0 + x * 1) = some (.bool false) :=by rw [show 0 + x * 1 = x by omega,ht1 x,if_pos (by omega)]
   refine qaa (qch hx2) ?_
   conv=>whnf
   refine qaa (qaf hx2) ?_
   conv=>whnf
   refine qaa (zT (show 0 + x * 1 < m1 by omega)) ?_
   conv=>whnf
   refine qac (qbr hg) ?_
   conv=>whnf
   exact ⟨(x + 1,m1),⟨em1,hx2⟩,by show 61 - (x + 1) < 61 - x;omega,Nat.le_refl _,(by refine ⟨rfl,rfl,rfl,rfl,rfl,rfl,34,rfl,?_,?_,?_,?_,by kernel_rfl⟩ <;> repeat' (first | exact bz lU | exact bz lU8 | exact bz lN | exact Mk.bd hm1 | exact ⟨_,rfl,WkV.int (hx1 (by omega))⟩ | exact zZ | apply And.intro))⟩
  refine qad (qcl hx2) ?_
  conv=>whnf
  refine .inl ?_
  conv=>whnf
  refine zd hS ?_
  conv=>whnf
  clear hx1 hx2 hx
  refine qa1 16 rfl (show AV.int .i64 (IntKind.i64.wrap (1 + 1)) = nv 2 from congrArg (AV.int .i64) (qas (by decide) (by decide))) ?_
  refine qae hE hS ?_
  conv=>whnf
  by_cases hp2:2 ≤ p
  ·refine qaa ((show decide (2 < IntKind.i64.wrap (Int.ofNat p + 1)) = true by rw [hp1];exact qch (a :=2) (by omega))) ?_
   conv=>whnf
   refine qab hC (rep2) ?_
   conv=>whnf
   refine qab hC (pro2) ?_
   conv=>whnf
   with_unfolding_all (conv=>whnf)
   intro t ht
   have ht2:∀ j,t.get j = if j < 3601 then some (.bool false) else none :=ht
   conv=>whnf
   repeat (first | (refine qb7 ?_;conv=>whnf) | (refine qaa (by rcases hNs with rfl | rfl <;> exact rfl) ?_;conv=>whnf))
   refine qat hC ?_
   conv=>whnf
   refine qap hE hS ?_
   conv=>whnf
   repeat (first | (refine qb7 ?_;conv=>whnf) | (refine qaa (by rcases hNs with rfl | rfl <;> exact rfl) ?_;conv=>whnf))
   refine qap hE hS ?_
   conv=>whnf
   refine qat hC ?_
   conv=>whnf
   refine qap hE hS ?_
   conv=>whnf
   refine qae hE hS ?_
   conv=>whnf
   have hm2 :=Mk.none ht2
   refine qb3 hE hS (A :=Nat × Nat) [] (fun x hx => hx) [1,2,3,5,15,16] (fun (x,m) => [(7,.nils),(32,.slc 48 0 m m),(33,nv m),(34,nv x)]) (fun (_,m) => [(48,.cells t m 4),(49,.cells (.node (.slc 48 0 m m) .nil .nil) 1 164)]) (fun _ => []) (fun (x,m) => m = 3601 ∧ x ≤ m) (fun (x,_) => 3601 - x) (0,3601) (Nat.le_of_ble_eq_true rfl) (by repeat' (first | exact trivial | exact Nat.lt_of_lt_of_le (Nat.lt_succ_self _) (Nat.le_of_ble_eq_true rfl) | apply And.intro)) rfl (by refine ⟨rfl,rfl,rfl,rfl,rfl,rfl,56,rfl,?_,?_,?_,?_,by kernel_rfl⟩ <;> repeat' (first | exact bz lU | exact bz lU8 | exact bz lN | exact Mk.bd hm1 | exact Mk.bd hm2 | exact slG2 | exact OWk.eq slG2 | exact ⟨_,rfl,slV2⟩ | exact ⟨_,rfl,slW2⟩ | exact ⟨_,rfl,slX2⟩ | exact zZ | apply And.intro)) ⟨rfl,Nat.zero_le _⟩ ?_
   rintro ⟨x,m2⟩ ⟨em2,hx⟩ K hK
   obtain rfl:K = 56 :=hK
   have hx1:x ≤ 3601 → IntKind.i64.wrap (Int.ofNat x + 1) = Int.ofNat (x + 1) :=fun h => qa2 (m :=x + 1) (by omega)
   conv=>whnf
   by_cases hx2:x < m2
   ·have hg:t.get (0 + x * 1) = some (.bool false) :=by rw [show 0 + x * 1 = x by omega,ht2 x,if_pos (by omega)]
    refine qaa (qch hx2) ?_
    conv=>whnf
    refine qaa (qaf hx2) ?_
    conv=>whnf
    refine qaa (zT (show 0 + x * 1 < m2 by omega)) ?_
    conv=>whnf
    refine qac (qbr hg) ?_
    conv=>whnf
    exact ⟨(x + 1,m2),⟨em2,hx2⟩,by show 3601 - (x + 1) < 3601 - x;omega,Nat.le_refl _,(by refine ⟨rfl,rfl,rfl,rfl,rfl,rfl,56,rfl,?_,?_,?_,?_,by kernel_rfl⟩ <;> repeat' (first | exact bz lU | exact bz lU8 | exact bz lN | exact Mk.bd hm1 | exact Mk.bd hm2 | exact ⟨_,rfl,WkV.int (hx1 (by omega))⟩ | exact zZ | apply And.intro))⟩
   refine qad (qcl hx2) ?_
   conv=>whnf
   refine .inl ?_
   conv=>whnf
   refine zd hS ?_
   conv=>whnf
   clear hx1 hx2 hx
   refine qa1 16 rfl (show AV.int .i64 (IntKind.i64.wrap (2 + 1)) = nv 3 from congrArg (AV.int .i64) (qas (by decide) (by decide))) ?_
   refine qae hE hS ?_
   conv=>whnf
   by_cases hp3:3 ≤ p
   ·refine qaa ((show decide (3 < IntKind.i64.wrap (Int.ofNat p + 1)) = true by rw [hp1];exact qch (a :=3) (by omega))) ?_
    conv=>whnf
    refine qab hC (rep3) ?_
    conv=>whnf
    refine qab hC (pro3) ?_
    conv=>whnf
    with_unfolding_all (conv=>whnf)
    intro t ht
    have ht3:∀ j,t.get j = if j < 216001 then some (.bool false) else none :=ht
    conv=>whnf
    repeat (first | (refine qb7 ?_;conv=>whnf) | (refine qaa (by rcases hNs with rfl | rfl <;> exact rfl) ?_;conv=>whnf))
    refine qat hC ?_
    conv=>whnf
    refine qap hE hS ?_
    conv=>whnf
    repeat (first | (refine qb7 ?_;conv=>whnf) | (refine qaa (by rcases hNs with rfl | rfl <;> exact rfl) ?_;conv=>whnf))
    refine qap hE hS ?_
    conv=>whnf
    refine qat hC ?_
    conv=>whnf
    refine qap hE hS ?_
    conv=>whnf
    refine qae hE hS ?_
    conv=>whnf
    have hm3 :=Mk.none ht3
    refine qb3 hE hS (A :=Nat × Nat) [] (fun x hx => hx) [1,2,3,5,15,16] (fun (x,m) => [(7,.nils),(32,.slc 70 0 m m),(33,nv m),(34,nv x)]) (fun (_,m) => [(70,.cells t m 4),(71,.cells (.node (.slc 70 0 m m) .nil .nil) 1 164)]) (fun _ => []) (fun (x,m) => m = 216001 ∧ x ≤ m) (fun (x,_) => 216001 - x) (0,216001) (Nat.le_of_ble_eq_true rfl) (by repeat' (first | exact trivial | exact Nat.lt_of_lt_of_le (Nat.lt_succ_self _) (Nat.le_of_ble_eq_true rfl) | apply And.intro)) rfl (by refine ⟨rfl,rfl,rfl,rfl,rfl,rfl,78,rfl,?_,?_,?_,?_,by kernel_rfl⟩ <;> repeat' (first | exact bz lU | exact bz lU8 | exact bz lN | exact Mk.bd hm1 | exact Mk.bd hm2 | exact Mk.bd hm3 | exact slG3 | exact OWk.eq slG3 | exact ⟨_,rfl,slV3⟩ | exact ⟨_,rfl,slW3⟩ | exact ⟨_,rfl,slX3⟩ | exact zZ | apply And.intro)) ⟨rfl,Nat.zero_le _⟩ ?_
    rintro ⟨x,m3⟩ ⟨em3,hx⟩ K hK
    obtain rfl:K = 78 :=hK
    have hx1:x ≤ 216001 → IntKind.i64.wrap (Int.ofNat x + 1) = Int.ofNat (x + 1) :=fun h => qa2 (m :=x + 1) (by omega)
    conv=>whnf
    by_cases hx2:x < m3
    ·have hg:t.get (0 + x * 1) = some (.bool false) :=by rw [show 0 + x * 1 = x by omega,ht3 x,if_pos (by omega)]
     refine qaa (qch hx2) ?_
     conv=>whnf
     refine qaa (qaf hx2) ?_
     conv=>whnf
     refine qaa (zT (show 0 + x * 1 < m3 by omega)) ?_
     conv=>whnf
     refine qac (qbr hg) ?_
     conv=>whnf
     exact ⟨(x + 1,m3),⟨em3,hx2⟩,by show 216001 - (x + 1) < 216001 - x;omega,Nat.le_refl _,(by refine ⟨rfl,rfl,rfl,rfl,rfl,rfl,78,rfl,?_,?_,?_,?_,by kernel_rfl⟩ <;> repeat' (first | exact bz lU | exact bz lU8 | exact bz lN | exact Mk.bd hm1 | exact Mk.bd hm2 | exact Mk.bd hm3 | exact ⟨_,rfl,WkV.int (hx1 (by omega))⟩ | exact zZ | apply And.intro))⟩
    refine qad (qcl hx2) ?_
    conv=>whnf
    refine .inl ?_
    conv=>whnf
    refine zd hS ?_
    conv=>whnf
    clear hx1 hx2 hx
    refine qa1 16 rfl (show AV.int .i64 (IntKind.i64.wrap (3 + 1)) = nv 4 from congrArg (AV.int .i64) (qas (by decide) (by decide))) ?_
    refine qae hE hS ?_
    conv=>whnf
    refine qad ((show decide (4 < IntKind.i64.wrap (Int.ofNat p + 1)) = false by rw [hp1];exact qcl (a :=4) (by omega))) ?_
    conv=>whnf
    exact ⟨_,rfl,by refine q2e lN (show p = 3 by omega) rfl (i0 :=3) (y0 :=4) (i1 :=26) (y1 :=4) (m1 :=m1) (i2 :=48) (y2 :=4) (m2 :=m2) (i3 :=70) (y3 :=4) (m3 :=m3) ?_ ?_ ht1 em1 ?_ ht2 em2 ?_ ht3 em3 <;> rfl⟩
   ·refine qad ((show decide (3 < IntKind.i64.wrap (Int.ofNat p + 1)) = false by rw [hp1];exact qcl (a :=3) (by omega))) ?_
    conv=>whnf
    exact ⟨_,rfl,by refine q2f lN (show p = 2 by omega) rfl (i0 :=3) (y0 :=4) (i1 :=26) (y1 :=4) (m1 :=m1) (i2 :=48) (y2 :=4) (m2 :=m2) ?_ ?_ ht1 em1 ?_ ht2 em2 <;> rfl⟩
  ·refine qad ((show decide (2 < IntKind.i64.wrap (Int.ofNat p + 1)) = false by rw [hp1];exact qcl (a :=2) (by omega))) ?_
   conv=>whnf
   exact ⟨_,rfl,by refine q2g lN (show p = 1 by omega) rfl (i0 :=3) (y0 :=4) (i1 :=26) (y1 :=4) (m1 :=m1) ?_ ?_ ht1 em1 <;> rfl⟩
end
end Go.Abs.Seat
