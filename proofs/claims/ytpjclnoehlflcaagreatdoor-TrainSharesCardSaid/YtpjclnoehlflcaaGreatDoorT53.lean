/-
  Rules prepared: printed by gen40.py.
-/
import Derived.Test.YtpjclnoehlflcaaGreatDoorU9
namespace Go.Abs.Seat
noncomputable section
open Go Go.Abs Go.Proofs.Tryz
set_option maxRecDepth 100000
set_option maxHeartbeats 40000000
attribute [local irreducible] IntKind.wrap pEq
theorem slE1:AObj.cells (.node (.slc 26 0 (IntKind.i64.wrap (60 + 1)).toNat (IntKind.i64.wrap (60 + 1)).toNat) .nil .nil) 1 164 = AObj.cells (.node (.slc 26 0 61 61) .nil .nil) 1 164 :=by
 rw [show IntKind.i64.wrap (60 + 1) = 61 from qas (by decide) (by decide)];rfl
theorem slE2:AObj.cells (.node (.slc 49 0 (IntKind.i64.wrap (3600 + 1)).toNat (IntKind.i64.wrap (3600 + 1)).toNat) .nil .nil) 1 164 = AObj.cells (.node (.slc 49 0 3601 3601) .nil .nil) 1 164 :=by
 rw [show IntKind.i64.wrap (3600 + 1) = 3601 from qas (by decide) (by decide)];rfl
theorem slE3:AObj.cells (.node (.slc 72 0 (IntKind.i64.wrap (216000 + 1)).toNat (IntKind.i64.wrap (216000 + 1)).toNat) .nil .nil) 1 164 = AObj.cells (.node (.slc 72 0 216001 216001) .nil .nil) 1 164 :=by
 rw [show IntKind.i64.wrap (216000 + 1) = 216001 from qas (by decide) (by decide)];rfl
theorem q01 {N:AV} {l:List Int} (hN:IL N l) (a b:Nat) (s:Int) (p:Nat) (hp:1 ≤ p ∧ p ≤ 3) (TL:List Nat) (hTL:TL ≠ []) (h60:∀ n,n ∈ TL → n ≤ 60) (hTl:TL.length ≤ 60) :
  Pure prog 93 [ruv (Int.ofNat a) (Int.ofNat b) (Int.ofNat p) s N (nl (zl TL))] (prV (Int.ofNat a) (Int.ofNat b) p s N (nl (zl TL)) (fun n => n ∈ TL)) :=by
 have lT:Live noL (nl (zl TL)) :=nl_no _
 have lN :=hN.no
 have lU:Live noL (ruv (Int.ofNat a) (Int.ofNat b) (Int.ofNat p) s N (nl (zl TL))) :=⟨trivial,trivial,trivial,trivial,lN,lT,trivial⟩
 have lU8:Live noL (.agg [iv (Int.ofNat a),iv (Int.ofNat b),iv (Int.ofNat p),iv s,N,nl (zl TL),.nils,.nils]) :=⟨trivial,trivial,trivial,trivial,lN,lT,trivial,trivial,trivial⟩
 have hp1:IntKind.i64.wrap (Int.ofNat p + 1) = Int.ofNat (p + 1) :=qa2 (m :=p + 1) (by omega)
 rcases hN.cs with rfl | rfl
 all_goals
  refine qef hE rfl zL (q02 lN lT _) fun S q pc hS hq hC hE => ?_
  conv=>whnf
  repeat (first | (refine qb7 ?_;conv=>whnf) | (refine qaa (by rcases hNs with rfl | rfl <;> exact rfl) ?_;conv=>whnf))
  refine qae hE hS ?_
  conv=>whnf
  refine qaa ((show decide (0 < IntKind.i64.wrap (Int.ofNat p + 1)) = true by rw [hp1];exact qch (a :=0) (Nat.succ_pos p))) ?_
  conv=>whnf
  refine qab hC (rep0) ?_
  conv=>whnf
  refine qab hC (pro0) ?_
  conv=>whnf
  rw [show IntKind.i64.wrap (1 + 1) = 2 from qas (by decide) (by decide)]
  conv=>whnf
  repeat (first | (refine qb7 ?_;conv=>whnf) | (refine qaa (by rcases hNs with rfl | rfl <;> exact rfl) ?_;conv=>whnf))
  refine qat hC ?_
  conv=>whnf
  refine qap hE hS ?_
  conv=>whnf
  repeat (first | (refine qb7 ?_;conv=>whnf) | (refine qaa (by rcases hNs with rfl | rfl <;> exact rfl) ?_;conv=>whnf))
  refine qap hE hS ?_
  conv=>whnf
  refine qat hC ?_
  conv=>whnf
  refine qap hE hS ?_
  conv=>whnf
  refine qau hE hS ?_
  conv=>whnf
  refine qau hE hS ?_
  conv=>whnf
  refine qae hE hS ?_
  conv=>whnf
  rw [show IntKind.i64.wrap (0 + 1) = 1 from qas (by decide) (by decide)]
  conv=>whnf
  refine qae hE hS ?_
  conv=>whnf
  rw [show IntKind.i64.wrap (1 + 1) = 2 from qas (by decide) (by decide)]
  conv=>whnf
  refine qae hE hS ?_
  conv=>whnf
  refine zd hS ?_
  conv=>whnf
  refine qa1 16 rfl (show AV.int .i64 (IntKind.i64.wrap (0 + 1)) = nv 1 from congrArg (AV.int .i64) (qas (by decide) (by decide))) ?_
  refine qae hE hS ?_
  conv=>whnf
  refine qaa ((show decide (1 < IntKind.i64.wrap (Int.ofNat p + 1)) = true by rw [hp1];exact qch (a :=1) (by omega))) ?_
  conv=>whnf
  refine qab hC (rep1) ?_
  conv=>whnf
  refine qab hC (pro1) ?_
  conv=>whnf
  with_unfolding_all (conv=>whnf)
  intro t ht
  have ht:∀ j,t.get j = if j < 61 then some (.bool false) else none :=ht
  conv=>whnf
  repeat (first | (refine qb7 ?_;conv=>whnf) | (refine qaa (by rcases hNs with rfl | rfl <;> exact rfl) ?_;conv=>whnf))
  refine qat hC ?_
  conv=>whnf
  refine qap hE hS ?_
  conv=>whnf
  repeat (first | (refine qb7 ?_;conv=>whnf) | (refine qaa (by rcases hNs with rfl | rfl <;> exact rfl) ?_;conv=>whnf))
  refine qap hE hS ?_
  conv=>whnf
  refine qat hC ?_
  conv=>whnf
  refine qap hE hS ?_
  conv=>whnf
  have hm0 :=Mk.none ht
  have hb1:1 ≤ 1 :=Nat.le_refl 1
  refine qb3 hE hS (A :=Nat × Tr AV × Nat) [31,26] (fun x hx => nomatch hx) [3,4,5,9] (fun (i,_,_) => [(1,nv 1),(2,nv (1)),(10,nv i)]) (fun (_,t,m) => [(26,.cells t m 4),(27,.cells (.node (.slc 26 0 m m) .nil .nil) 1 164)]) (fun _ => []) (fun (i,t,m) => m = 61 ∧ (0) ≤ i ∧ i ≤ TL.length ∧ Mk t m (fun x => (False) ∨ ∃ z,PW TL 0 (0) i z ∧ x = (1) * z)) (fun (i,_,_) => TL.length - i) (0,t,61) (Nat.le_of_ble_eq_true rfl) trivial rfl (by refine ⟨rfl,rfl,rfl,rfl,rfl,rfl,34,rfl,?_,?_,?_,?_,by kernel_rfl⟩ <;> repeat' (first | exact Mk.bd hm0 | exact bz lU | exact bz lU8 | exact bz lT | exact bz lN | exact slE1 | exact OWk.eq slE1 | exact zZ | apply And.intro)) ⟨rfl,Nat.le_refl _,Nat.zero_le _,hm0.ext fun x _ => ⟨.inl,fun h => h.resolve_right fun ⟨z,h,_⟩ => qg7 h⟩⟩ ?_
  rintro ⟨i1,t1,m1⟩ ⟨em1,hf1,hl1,hm1⟩ N hN
  obtain rfl:N = 34 :=hN
  conv=>whnf
  by_cases hi1:i1 < TL.length
  ·refine qaa ((show decide (Int.ofNat i1 < ((zl TL).length:Int)) = true from zT (by rw [qax];show (i1:Int) < _;omega))) ?_
   conv=>whnf
   have hn1:nth (ivs (zl TL)) (i1 * 1) = some (nv (gn TL i1)) :=by rw [qa4 (by rw [qax];exact hi1),qcw TL hi1]
   have hg1 :=h60 _ (qbd TL hi1)
   have hb0:(1) * gn TL i1 ≤ 60 :=Nat.mul_le_mul hb1 hg1
   have hnow0:IntKind.i64.wrap (Int.ofNat (1) * Int.ofNat (gn TL i1)) = Int.ofNat ((1) * gn TL i1) :=mulN (by omega)
   have hleft0:IntKind.i64.wrap (Int.ofNat 1 - 1) = Int.ofNat 0 :=qas (by decide) (by decide)
   have hi11:IntKind.i64.wrap (Int.ofNat i1 + 1) = Int.ofNat (i1 + 1) :=qa2 (m :=i1 + 1) (by omega)
   refine qaa (qaf (show i1 < (zl TL).length by rw [qax];exact hi1)) ?_
   conv=>whnf
   refine qac (nthP (hn1)) ?_
   conv=>whnf
   refine qat hC ?_
   conv=>whnf
   refine qap hE hS ?_
   conv=>whnf
   refine qaa ((show (IntKind.i64.wrap (Int.ofNat 1 - 1) == 0) = true by rw [hleft0];rfl)) ?_
   conv=>whnf
   refine qau hE hS ?_
   conv=>whnf
   refine qau hE hS ?_
   conv=>whnf
   refine qaa ((show inR (IntKind.i64.wrap (Int.ofNat (1) * Int.ofNat (gn TL i1))) m1 = true by rw [hnow0];exact qaf (by omega))) ?_
   conv=>whnf
   have eo:0 + (IntKind.i64.wrap (Int.ofNat (1) * Int.ofNat (gn TL i1))).toNat * 1 = (1) * gn TL i1 :=by rw [hnow0];show 0 + (1) * gn TL i1 * 1 = _;omega
   refine qaa ((show Nat.ble (0 + (IntKind.i64.wrap (Int.ofNat (1) * Int.ofNat (gn TL i1))).toNat * 1 + 1) m1 = true by rw [eo];exact Nat.ble_eq_true_of_le (by omega))) ?_
   conv=>whnf
   have hget :=hm1.at (x :=(1) * gn TL i1) (by omega)
   have hset :=hm1.set (i :=(1) * gn TL i1) (by omega)
   rw [← eo] at hget
   refine qki hget ?_
   conv=>whnf
   refine zd hS ?_
   conv=>whnf
   exact ⟨(i1 + 1,tset (pathOf ((1) * gn TL i1)) t1 (.bool true),m1),⟨em1,by omega,hi1,hset.ext fun x _ => qo1 hf1 _⟩,by show TL.length - (i1 + 1) < TL.length - i1;omega,Nat.le_refl _,(by refine ⟨rfl,rfl,rfl,rfl,rfl,rfl,34,rfl,?_,?_,?_,?_,by kernel_rfl⟩ <;> repeat' (first | exact Mk.bd hset | exact bz lU | exact bz lU8 | exact bz lT | exact bz lN | exact OWk.eq (qh2 eo) | exact zZ | apply And.intro))⟩
  ·refine qad ((show decide (Int.ofNat i1 < ((zl TL).length:Int)) = false from zF (by rw [qax];show ¬ (i1:Int) < _;omega))) ?_
   conv=>whnf
   refine .inl ?_
   conv=>whnf
   have ei:i1 = TL.length :=by omega
   have hmk1:Mk t1 m1 (qak (fun n => n ∈ TL) 1) :=hm1.ext fun x _ => by rw [ei];exact qir
   clear hm1 hl1 hf1 hi1 ei hb1 hm0 ht
   refine qb3 hE hS (A :=Nat × AV × List AObj × Nat) [] (fun x hx => hx) [1,2,3,5,15,16] (fun (x,v,_,m) => [(7,v),(32,.slc 26 0 m m),(33,nv m),(34,nv x)]) (fun (_,_,_,m) => [(26,.cells t1 m 4),(27,.cells (.node (.slc 26 0 m m) .nil .nil) 1 164)]) (fun a => a.2.2.1) (fun (x,v,ux,m) => m = 61 ∧ x ≤ m ∧ ((lstP (qak (fun n => n ∈ TL) 1) x) = [] ∧ v = .nils ∧ ux = [] ∨ (lstP (qak (fun n => n ∈ TL) 1) x) ≠ [] ∧ v = .lst (ivs (zl (lstP (qak (fun n => n ∈ TL) 1) x))) (lstP (qak (fun n => n ∈ TL) 1) x).length (.ch 34) ∧ ux = [.chain (lstP (qak (fun n => n ∈ TL) 1) x).length 1 3])) (fun (x,_,_,_) => 61 - x) (0,.nils,[],m1) (Nat.le_of_ble_eq_true rfl) (by repeat' (first | exact trivial | exact Nat.lt_of_lt_of_le (Nat.lt_succ_self _) (Nat.le_of_ble_eq_true rfl) | apply And.intro)) rfl (by refine ⟨rfl,rfl,rfl,rfl,rfl,rfl,34,rfl,?_,?_,?_,?_,by kernel_rfl⟩ <;> repeat' (first | exact bz lU | exact bz lU8 | exact bz lT | exact bz lN | exact Mk.bd hmk1 | exact zZ | apply And.intro)) ⟨em1,Nat.zero_le _,.inl ⟨rfl,rfl,rfl⟩⟩ ?_
   rintro ⟨x,v,ux,mm1⟩ ⟨em,hx,hR⟩ K hK
   have hx1:x ≤ 61 → IntKind.i64.wrap (Int.ofNat x + 1) = Int.ofNat (x + 1) :=fun h => qa2 (m :=x + 1) (by omega)
   have hg:x < mm1 → t1.get (0 + x * 1) = some (.bool (bq ((qak (fun n => n ∈ TL) 1) x))) :=fun h => by rw [show 0 + x * 1 = x by omega];exact hmk1.at (by omega)
   have hRl :=qc1 (qak (fun n => n ∈ TL) 1) x
   have hst:lstP (qak (fun n => n ∈ TL) 1) (x + 1) = @ite _ ((qak (fun n => n ∈ TL) 1) x) (Classical.propDecidable _) ((lstP (qak (fun n => n ∈ TL) 1) x) ++ [x]) (lstP (qak (fun n => n ∈ TL) 1) x) :=rfl
   rcases hR with ⟨e0,rfl,rfl⟩ | ⟨hne,rfl,rfl⟩
   ·obtain rfl:K = 34 :=hK
    conv=>whnf
    by_cases hx2:x < mm1
    ·refine qaa (qch hx2) ?_
     conv=>whnf
     refine qaa (qaf hx2) ?_
     conv=>whnf
     refine qaa (zT (show 0 + x * 1 < mm1 by omega)) ?_
     conv=>whnf
     have hg :=hg hx2
     by_cases hb:(qak (fun n => n ∈ TL) 1) x
     ·rw [bq_t hb] at hg
      rw [if_pos hb,e0] at hst
      refine qac (qbr hg) ?_
      conv=>whnf
      exact ⟨(x + 1,.lst (ivs (zl [x])) 1 (.ch 34),[.chain 1 1 3],mm1),⟨em,hx2,.inr ⟨by rw [hst];simp,by rw [hst];rfl,by rw [hst];rfl⟩⟩,by show 61 - (x + 1) < 61 - x;omega,Nat.zero_le _,(by refine ⟨rfl,rfl,rfl,rfl,rfl,rfl,35,rfl,?_,?_,?_,?_,by kernel_rfl⟩ <;> repeat' (first | exact bz lU | exact bz lU8 | exact bz lT | exact bz lN | exact Mk.bd hmk1 | exact ⟨_,rfl,WkV.int (hx1 (by omega))⟩ | exact zZ | apply And.intro))⟩
     ·rw [bq_f hb] at hg
      rw [if_neg hb,e0] at hst
      refine qac (qbr hg) ?_
      conv=>whnf
      exact ⟨(x + 1,.nils,[],mm1),⟨em,hx2,.inl ⟨hst,rfl,rfl⟩⟩,by show 61 - (x + 1) < 61 - x;omega,Nat.le_refl _,(by refine ⟨rfl,rfl,rfl,rfl,rfl,rfl,34,rfl,?_,?_,?_,?_,by kernel_rfl⟩ <;> repeat' (first | exact bz lU | exact bz lU8 | exact bz lT | exact bz lN | exact Mk.bd hmk1 | exact ⟨_,rfl,WkV.int (hx1 (by omega))⟩ | exact zZ | apply And.intro))⟩
    ·refine qad (qcl hx2) ?_
     conv=>whnf
     have ex:x = 61 :=by omega
     rw [ex] at e0
     exact absurd e0 (qt6 hTL h60 (by decide))
   ·obtain rfl:K = 35 :=hK
    conv=>whnf
    by_cases hx2:x < mm1
    ·refine qaa (qch hx2) ?_
     conv=>whnf
     refine qaa (qaf hx2) ?_
     conv=>whnf
     refine qaa (zT (show 0 + x * 1 < mm1 by omega)) ?_
     conv=>whnf
     have hg :=hg hx2
     by_cases hb:(qak (fun n => n ∈ TL) 1) x
     ·rw [bq_t hb] at hg
      rw [if_pos hb] at hst
      refine qac (qbr hg) ?_
      conv=>whnf
      refine qaa (zT (show ((lstP (qak (fun n => n ∈ TL) 1) x).length + (0 + 1)) * 8 ≤ 140737488355328 by omega)) ?_
      conv=>whnf
      refine qaa (zT (show (lstP (qak (fun n => n ∈ TL) 1) x).length + (0 + 1) ≤ 9223372036854775807 by omega)) ?_
      conv=>whnf
      refine qaa (qge (lstP (qak (fun n => n ∈ TL) 1) x)) ?_
      conv=>whnf
      refine qaa (zT rfl) ?_
      conv=>whnf
      exact ⟨(x + 1,.lst (ivs (zl ((lstP (qak (fun n => n ∈ TL) 1) x) ++ [x]))) ((lstP (qak (fun n => n ∈ TL) 1) x) ++ [x]).length (.ch 34),[.chain ((lstP (qak (fun n => n ∈ TL) 1) x) ++ [x]).length 1 3],mm1),⟨em,hx2,.inr ⟨by rw [hst];simp,by rw [hst],by rw [hst]⟩⟩,by show 61 - (x + 1) < 61 - x;omega,Nat.le_refl _,(by refine ⟨rfl,rfl,rfl,rfl,rfl,rfl,35,rfl,?_,?_,?_,?_,by kernel_rfl⟩ <;> repeat' (first | exact bz lU | exact bz lU8 | exact bz lT | exact bz lN | exact Mk.bd hmk1 | exact ⟨_,rfl,WkV.int (hx1 (by omega))⟩ | exact ⟨_,rfl,WkV.eq (qnc _ _ _)⟩ | exact OWk.eq (qnd _ _) | exact zZ | apply And.intro))⟩
     ·rw [bq_f hb] at hg
      rw [if_neg hb] at hst
      refine qac (qbr hg) ?_
      conv=>whnf
      exact ⟨(x + 1,.lst (ivs (zl (lstP (qak (fun n => n ∈ TL) 1) x))) (lstP (qak (fun n => n ∈ TL) 1) x).length (.ch 34),[.chain (lstP (qak (fun n => n ∈ TL) 1) x).length 1 3],mm1),⟨em,hx2,.inr ⟨by rw [hst];exact hne,by rw [hst],by rw [hst]⟩⟩,by show 61 - (x + 1) < 61 - x;omega,Nat.le_refl _,(by refine ⟨rfl,rfl,rfl,rfl,rfl,rfl,35,rfl,?_,?_,?_,?_,by kernel_rfl⟩ <;> repeat' (first | exact bz lU | exact bz lU8 | exact bz lT | exact bz lN | exact Mk.bd hmk1 | exact ⟨_,rfl,WkV.int (hx1 (by omega))⟩ | exact zZ | apply And.intro))⟩
    ·refine qad (qcl hx2) ?_
     conv=>whnf
     have ex:x = 61 :=by omega
     subst ex
     have hne1 :=hne
     have emm1 :=em
     have hmq1 :=(em.trans em1.symm) ▸ hmk1
     clear hst hg hx1 hx2 hx hne em
     refine .inl ?_
     conv=>whnf
     refine zd hS ?_
     conv=>whnf
     refine qa1 16 rfl (show AV.int .i64 (IntKind.i64.wrap (1 + 1)) = nv 2 from congrArg (AV.int .i64) (qas (by decide) (by decide))) ?_
     refine qae hE hS ?_
     conv=>whnf
     by_cases hp2:2 ≤ p
     ·refine qaa ((show decide (2 < IntKind.i64.wrap (Int.ofNat p + 1)) = true by rw [hp1];exact qch (a :=2) (by omega))) ?_
      conv=>whnf
      refine qab hC (rep2) ?_
      conv=>whnf
      refine qab hC (pro2) ?_
      conv=>whnf
      with_unfolding_all (conv=>whnf)
      intro t ht
      have ht:∀ j,t.get j = if j < 3601 then some (.bool false) else none :=ht
      conv=>whnf
      repeat (first | (refine qb7 ?_;conv=>whnf) | (refine qaa (by rcases hNs with rfl | rfl <;> exact rfl) ?_;conv=>whnf))
      refine qat hC ?_
      conv=>whnf
      refine qap hE hS ?_
      conv=>whnf
      repeat (first | (refine qb7 ?_;conv=>whnf) | (refine qaa (by rcases hNs with rfl | rfl <;> exact rfl) ?_;conv=>whnf))
      refine qap hE hS ?_
      conv=>whnf
      refine qat hC ?_
      conv=>whnf
      refine qap hE hS ?_
      conv=>whnf
      have hm0 :=Mk.none ht
      have hb2:1 ≤ 1 :=Nat.le_refl 1
      refine qb3 hE hS (A :=Nat × Tr AV × Nat) [49,54] (fun x hx => nomatch hx) [3,4,5,9] (fun (i,_,_) => [(1,nv 2),(2,nv (1)),(10,nv i)]) (fun (_,t,m) => [(49,.cells t m 4),(50,.cells (.node (.slc 49 0 m m) .nil .nil) 1 164)]) (fun _ => []) (fun (i,t,m) => m = 3601 ∧ (0) ≤ i ∧ i ≤ TL.length ∧ Mk t m (fun x => (False) ∨ ∃ z,PW TL 1 (0) i z ∧ x = (1) * z)) (fun (i,_,_) => TL.length - i) (0,t,3601) (Nat.le_of_ble_eq_true rfl) trivial rfl (by refine ⟨rfl,rfl,rfl,rfl,rfl,rfl,57,rfl,?_,?_,?_,?_,by kernel_rfl⟩ <;> repeat' (first | exact Mk.bd hm0 | exact Mk.bd hmq1 | exact bz lU | exact bz lU8 | exact bz lT | exact bz lN | exact slE2 | exact OWk.eq slE2 | exact zZ | apply And.intro)) ⟨rfl,Nat.le_refl _,Nat.zero_le _,hm0.ext fun x _ => ⟨.inl,fun h => h.resolve_right fun ⟨z,h,_⟩ => qg7 h⟩⟩ ?_
      rintro ⟨i2,t2,m2⟩ ⟨em2,hf2,hl2,hm2⟩ N hN
      obtain rfl:N = 57 :=hN
      conv=>whnf
      by_cases hi2:i2 < TL.length
      ·refine qaa ((show decide (Int.ofNat i2 < ((zl TL).length:Int)) = true from zT (by rw [qax];show (i2:Int) < _;omega))) ?_
       conv=>whnf
       have hn2:nth (ivs (zl TL)) (i2 * 1) = some (nv (gn TL i2)) :=by rw [qa4 (by rw [qax];exact hi2),qcw TL hi2]
       have hg2 :=h60 _ (qbd TL hi2)
       have hb1:(1) * gn TL i2 ≤ 60 :=Nat.mul_le_mul hb2 hg2
       have hnow1:IntKind.i64.wrap (Int.ofNat (1) * Int.ofNat (gn TL i2)) = Int.ofNat ((1) * gn TL i2) :=mulN (by omega)
       have hleft1:IntKind.i64.wrap (Int.ofNat 2 - 1) = Int.ofNat 1 :=qas (by decide) (by decide)
       have hi12:IntKind.i64.wrap (Int.ofNat i2 + 1) = Int.ofNat (i2 + 1) :=qa2 (m :=i2 + 1) (by omega)
       refine qaa (qaf (show i2 < (zl TL).length by rw [qax];exact hi2)) ?_
       conv=>whnf
       refine qac (nthP (hn2)) ?_
       conv=>whnf
       refine qat hC ?_
       conv=>whnf
       refine qap hE hS ?_
       conv=>whnf
       refine qad ((show (IntKind.i64.wrap (Int.ofNat 2 - 1) == 0) = false by rw [hleft1];rfl)) ?_
       conv=>whnf
       refine qb3 hE hS (A :=Nat × Tr AV × Nat) [54,49] (fun x hx => nomatch hx) [3,4,5,9] (fun (i,_,_) => [(1,nv 1),(2,nv ((1) * gn TL i2)),(10,nv i)]) (fun (_,t,m) => [(49,.cells t m 4),(50,.cells (.node (.slc 49 0 m m) .nil .nil) 1 164)]) (fun _ => []) (fun (i,t,m) => m = 3601 ∧ (i2) ≤ i ∧ i ≤ TL.length ∧ Mk t m (fun x => ((False) ∨ ∃ z,PW TL 1 (0) i2 z ∧ x = (1) * z) ∨ ∃ z,PW TL 0 (i2) i z ∧ x = ((1) * gn TL i2) * z)) (fun (i,_,_) => TL.length - i) (i2,t2,m2) (Nat.le_of_ble_eq_true rfl) trivial rfl (by refine ⟨rfl,rfl,rfl,rfl,rfl,rfl,70,rfl,?_,?_,?_,?_,by kernel_rfl⟩ <;> repeat' (first | exact Mk.bd hm2 | exact Mk.bd hmq1 | exact bz lU | exact bz lU8 | exact bz lT | exact bz lN | exact zZ | apply And.intro)) ⟨em2,Nat.le_refl _,Nat.le_of_lt hi2,hm2.ext fun x _ => ⟨.inl,fun h => h.resolve_right fun ⟨z,h,_⟩ => qg7 h⟩⟩ ?_
       rintro ⟨i1,t1,m1⟩ ⟨em1,hf1,hl1,hm1⟩ N hN
       obtain rfl:N = 70 :=hN
       conv=>whnf
       by_cases hi1:i1 < TL.length
       ·refine qaa ((show decide (Int.ofNat i1 < ((zl TL).length:Int)) = true from zT (by rw [qax];show (i1:Int) < _;omega))) ?_
        conv=>whnf
        have hn1:nth (ivs (zl TL)) (i1 * 1) = some (nv (gn TL i1)) :=by rw [qa4 (by rw [qax];exact hi1),qcw TL hi1]
        have hg1 :=h60 _ (qbd TL hi1)
        have hb0:((1) * gn TL i2) * gn TL i1 ≤ 3600 :=Nat.mul_le_mul hb1 hg1
        have hnow0:IntKind.i64.wrap (Int.ofNat ((1) * gn TL i2) * Int.ofNat (gn TL i1)) = Int.ofNat (((1) * gn TL i2) * gn TL i1) :=mulN (by omega)
        have hleft0:IntKind.i64.wrap (Int.ofNat 1 - 1) = Int.ofNat 0 :=qas (by decide) (by decide)
        have hi11:IntKind.i64.wrap (Int.ofNat i1 + 1) = Int.ofNat (i1 + 1) :=qa2 (m :=i1 + 1) (by omega)
        refine qaa (qaf (show i1 < (zl TL).length by rw [qax];exact hi1)) ?_
        conv=>whnf
        refine qac (nthP (hn1)) ?_
        conv=>whnf
        refine qat hC ?_
        conv=>whnf
        refine qap hE hS ?_
        conv=>whnf
        refine qaa ((show (IntKind.i64.wrap (Int.ofNat 1 - 1) == 0) = true by rw [hleft0];rfl)) ?_
        conv=>whnf
        refine qau hE hS ?_
        conv=>whnf
        refine qau hE hS ?_
        conv=>whnf
        refine qaa ((show inR (IntKind.i64.wrap (Int.ofNat ((1) * gn TL i2) * Int.ofNat (gn TL i1))) m1 = true by rw [hnow0];exact qaf (by omega))) ?_
        conv=>whnf
        have eo:0 + (IntKind.i64.wrap (Int.ofNat ((1) * gn TL i2) * Int.ofNat (gn TL i1))).toNat * 1 = ((1) * gn TL i2) * gn TL i1 :=by rw [hnow0];show 0 + ((1) * gn TL i2) * gn TL i1 * 1 = _;omega
        refine qaa ((show Nat.ble (0 + (IntKind.i64.wrap (Int.ofNat ((1) * gn TL i2) * Int.ofNat (gn TL i1))).toNat * 1 + 1) m1 = true by rw [eo];exact Nat.ble_eq_true_of_le (by omega))) ?_
        conv=>whnf
        have hget :=hm1.at (x :=((1) * gn TL i2) * gn TL i1) (by omega)
        have hset :=hm1.set (i :=((1) * gn TL i2) * gn TL i1) (by omega)
        rw [← eo] at hget
        refine qki hget ?_
        conv=>whnf
        refine zd hS ?_
        conv=>whnf
        exact ⟨(i1 + 1,tset (pathOf (((1) * gn TL i2) * gn TL i1)) t1 (.bool true),m1),⟨em1,by omega,hi1,hset.ext fun x _ => qo1 hf1 _⟩,by show TL.length - (i1 + 1) < TL.length - i1;omega,Nat.le_refl _,(by refine ⟨rfl,rfl,rfl,rfl,rfl,rfl,70,rfl,?_,?_,?_,?_,by kernel_rfl⟩ <;> repeat' (first | exact Mk.bd hset | exact Mk.bd hmq1 | exact bz lU | exact bz lU8 | exact bz lT | exact bz lN | exact OWk.eq (qh2 eo) | exact zZ | apply And.intro))⟩
       ·refine qad ((show decide (Int.ofNat i1 < ((zl TL).length:Int)) = false from zF (by rw [qax];show ¬ (i1:Int) < _;omega))) ?_
        conv=>whnf
        refine .inl ?_
        conv=>whnf
        refine zd hS ?_
        conv=>whnf
        have ei:i1 = TL.length :=by omega
        exact ⟨(i2 + 1,t1,m1),⟨em1,by omega,hi2,hm1.ext fun x _ => by rw [ei];exact qqz (k :=1) hf2 _⟩,by show TL.length - (i2 + 1) < TL.length - i2;omega,Nat.le_refl _,(by refine ⟨rfl,rfl,rfl,rfl,rfl,rfl,57,rfl,?_,?_,?_,?_,by kernel_rfl⟩ <;> repeat' (first | exact Mk.bd hm1 | exact Mk.bd hmq1 | exact bz lU | exact bz lU8 | exact bz lT | exact bz lN | exact zZ | apply And.intro))⟩
      ·refine qad ((show decide (Int.ofNat i2 < ((zl TL).length:Int)) = false from zF (by rw [qax];show ¬ (i2:Int) < _;omega))) ?_
       conv=>whnf
       refine .inl ?_
       conv=>whnf
       have ei:i2 = TL.length :=by omega
       have hmk2:Mk t2 m2 (qak (fun n => n ∈ TL) 2) :=hm2.ext fun x _ => by rw [ei];exact qir
       clear hm2 hl2 hf2 hi2 ei hb2 hm0 ht
       refine qb3 hE hS (A :=Nat × AV × List AObj × Nat) [] (fun x hx => hx) [1,2,3,5,15,16] (fun (x,v,_,m) => [(7,v),(32,.slc 49 0 m m),(33,nv m),(34,nv x)]) (fun (_,_,_,m) => [(49,.cells t2 m 4),(50,.cells (.node (.slc 49 0 m m) .nil .nil) 1 164)]) (fun a => a.2.2.1) (fun (x,v,ux,m) => m = 3601 ∧ x ≤ m ∧ ((lstP (qak (fun n => n ∈ TL) 2) x) = [] ∧ v = .nils ∧ ux = [] ∨ (lstP (qak (fun n => n ∈ TL) 2) x) ≠ [] ∧ v = .lst (ivs (zl (lstP (qak (fun n => n ∈ TL) 2) x))) (lstP (qak (fun n => n ∈ TL) 2) x).length (.ch 57) ∧ ux = [.chain (lstP (qak (fun n => n ∈ TL) 2) x).length 1 3])) (fun (x,_,_,_) => 3601 - x) (0,.nils,[],m2) (Nat.le_of_ble_eq_true rfl) (by repeat' (first | exact trivial | exact Nat.lt_of_lt_of_le (Nat.lt_succ_self _) (Nat.le_of_ble_eq_true rfl) | apply And.intro)) rfl (by refine ⟨rfl,rfl,rfl,rfl,rfl,rfl,57,rfl,?_,?_,?_,?_,by kernel_rfl⟩ <;> repeat' (first | exact bz lU | exact bz lU8 | exact bz lT | exact bz lN | exact Mk.bd hmk2 | exact Mk.bd hmq1 | exact zZ | apply And.intro)) ⟨em2,Nat.zero_le _,.inl ⟨rfl,rfl,rfl⟩⟩ ?_
       rintro ⟨x,v,ux,mm2⟩ ⟨em,hx,hR⟩ K hK
       have hx1:x ≤ 3601 → IntKind.i64.wrap (Int.ofNat x + 1) = Int.ofNat (x + 1) :=fun h => qa2 (m :=x + 1) (by omega)
       have hg:x < mm2 → t2.get (0 + x * 1) = some (.bool (bq ((qak (fun n => n ∈ TL) 2) x))) :=fun h => by rw [show 0 + x * 1 = x by omega];exact hmk2.at (by omega)
       have hRl :=qc1 (qak (fun n => n ∈ TL) 2) x
       have hst:lstP (qak (fun n => n ∈ TL) 2) (x + 1) = @ite _ ((qak (fun n => n ∈ TL) 2) x) (Classical.propDecidable _) ((lstP (qak (fun n => n ∈ TL) 2) x) ++ [x]) (lstP (qak (fun n => n ∈ TL) 2) x) :=rfl
       rcases hR with ⟨e0,rfl,rfl⟩ | ⟨hne,rfl,rfl⟩
       ·obtain rfl:K = 57 :=hK
        conv=>whnf
        by_cases hx2:x < mm2
        ·refine qaa (qch hx2) ?_
         conv=>whnf
         refine qaa (qaf hx2) ?_
         conv=>whnf
         refine qaa (zT (show 0 + x * 1 < mm2 by omega)) ?_
         conv=>whnf
         have hg :=hg hx2
         by_cases hb:(qak (fun n => n ∈ TL) 2) x
         ·rw [bq_t hb] at hg
          rw [if_pos hb,e0] at hst
          refine qac (qbr hg) ?_
          conv=>whnf
          exact ⟨(x + 1,.lst (ivs (zl [x])) 1 (.ch 57),[.chain 1 1 3],mm2),⟨em,hx2,.inr ⟨by rw [hst];simp,by rw [hst];rfl,by rw [hst];rfl⟩⟩,by show 3601 - (x + 1) < 3601 - x;omega,Nat.zero_le _,(by refine ⟨rfl,rfl,rfl,rfl,rfl,rfl,58,rfl,?_,?_,?_,?_,by kernel_rfl⟩ <;> repeat' (first | exact bz lU | exact bz lU8 | exact bz lT | exact bz lN | exact Mk.bd hmk2 | exact Mk.bd hmq1 | exact ⟨_,rfl,WkV.int (hx1 (by omega))⟩ | exact zZ | apply And.intro))⟩
         ·rw [bq_f hb] at hg
          rw [if_neg hb,e0] at hst
          refine qac (qbr hg) ?_
          conv=>whnf
          exact ⟨(x + 1,.nils,[],mm2),⟨em,hx2,.inl ⟨hst,rfl,rfl⟩⟩,by show 3601 - (x + 1) < 3601 - x;omega,Nat.le_refl _,(by refine ⟨rfl,rfl,rfl,rfl,rfl,rfl,57,rfl,?_,?_,?_,?_,by kernel_rfl⟩ <;> repeat' (first | exact bz lU | exact bz lU8 | exact bz lT | exact bz lN | exact Mk.bd hmk2 | exact Mk.bd hmq1 | exact ⟨_,rfl,WkV.int (hx1 (by omega))⟩ | exact zZ | apply And.intro))⟩
        ·refine qad (qcl hx2) ?_
         conv=>whnf
         have ex:x = 3601 :=by omega
         rw [ex] at e0
         exact absurd e0 (qt6 hTL h60 (by decide))
       ·obtain rfl:K = 58 :=hK
        conv=>whnf
        by_cases hx2:x < mm2
        ·refine qaa (qch hx2) ?_
         conv=>whnf
         refine qaa (qaf hx2) ?_
         conv=>whnf
         refine qaa (zT (show 0 + x * 1 < mm2 by omega)) ?_
         conv=>whnf
         have hg :=hg hx2
         by_cases hb:(qak (fun n => n ∈ TL) 2) x
         ·rw [bq_t hb] at hg
          rw [if_pos hb] at hst
          refine qac (qbr hg) ?_
          conv=>whnf
          refine qaa (zT (show ((lstP (qak (fun n => n ∈ TL) 2) x).length + (0 + 1)) * 8 ≤ 140737488355328 by omega)) ?_
          conv=>whnf
          refine qaa (zT (show (lstP (qak (fun n => n ∈ TL) 2) x).length + (0 + 1) ≤ 9223372036854775807 by omega)) ?_
          conv=>whnf
          refine qaa (qge (lstP (qak (fun n => n ∈ TL) 2) x)) ?_
          conv=>whnf
          refine qaa (zT rfl) ?_
          conv=>whnf
          exact ⟨(x + 1,.lst (ivs (zl ((lstP (qak (fun n => n ∈ TL) 2) x) ++ [x]))) ((lstP (qak (fun n => n ∈ TL) 2) x) ++ [x]).length (.ch 57),[.chain ((lstP (qak (fun n => n ∈ TL) 2) x) ++ [x]).length 1 3],mm2),⟨em,hx2,.inr ⟨by rw [hst];simp,by rw [hst],by rw [hst]⟩⟩,by show 3601 - (x + 1) < 3601 - x;omega,Nat.le_refl _,(by refine ⟨rfl,rfl,rfl,rfl,rfl,rfl,58,rfl,?_,?_,?_,?_,by kernel_rfl⟩ <;> repeat' (first | exact bz lU | exact bz lU8 | exact bz lT | exact bz lN | exact Mk.bd hmk2 | exact Mk.bd hmq1 | exact ⟨_,rfl,WkV.int (hx1 (by omega))⟩ | exact ⟨_,rfl,WkV.eq (qnc _ _ _)⟩ | exact OWk.eq (qnd _ _) | exact zZ | apply And.intro))⟩
         ·rw [bq_f hb] at hg
          rw [if_neg hb] at hst
          refine qac (qbr hg) ?_
          conv=>whnf
          exact ⟨(x + 1,.lst (ivs (zl (lstP (qak (fun n => n ∈ TL) 2) x))) (lstP (qak (fun n => n ∈ TL) 2) x).length (.ch 57),[.chain (lstP (qak (fun n => n ∈ TL) 2) x).length 1 3],mm2),⟨em,hx2,.inr ⟨by rw [hst];exact hne,by rw [hst],by rw [hst]⟩⟩,by show 3601 - (x + 1) < 3601 - x;omega,Nat.le_refl _,(by refine ⟨rfl,rfl,rfl,rfl,rfl,rfl,58,rfl,?_,?_,?_,?_,by kernel_rfl⟩ <;> repeat' (first | exact bz lU | exact bz lU8 | exact bz lT | exact bz lN | exact Mk.bd hmk2 | exact Mk.bd hmq1 | exact ⟨_,rfl,WkV.int (hx1 (by omega))⟩ | exact zZ | apply And.intro))⟩
        ·refine qad (qcl hx2) ?_
         conv=>whnf
         have ex:x = 3601 :=by omega
         subst ex
         have hne2 :=hne
         have emm2 :=em
         have hmq2 :=(em.trans em2.symm) ▸ hmk2
         clear hst hg hx1 hx2 hx hne em
         refine .inl ?_
         conv=>whnf
         refine zd hS ?_
         conv=>whnf
         refine qa1 16 rfl (show AV.int .i64 (IntKind.i64.wrap (2 + 1)) = nv 3 from congrArg (AV.int .i64) (qas (by decide) (by decide))) ?_
         refine qae hE hS ?_
         conv=>whnf
         by_cases hp3:3 ≤ p
         ·refine qaa ((show decide (3 < IntKind.i64.wrap (Int.ofNat p + 1)) = true by rw [hp1];exact qch (a :=3) (by omega))) ?_
          conv=>whnf
          refine qab hC (rep3) ?_
          conv=>whnf
          refine qab hC (pro3) ?_
          conv=>whnf
          with_unfolding_all (conv=>whnf)
          intro t ht
          have ht:∀ j,t.get j = if j < 216001 then some (.bool false) else none :=ht
          conv=>whnf
          repeat (first | (refine qb7 ?_;conv=>whnf) | (refine qaa (by rcases hNs with rfl | rfl <;> exact rfl) ?_;conv=>whnf))
          refine qat hC ?_
          conv=>whnf
          refine qap hE hS ?_
          conv=>whnf
          repeat (first | (refine qb7 ?_;conv=>whnf) | (refine qaa (by rcases hNs with rfl | rfl <;> exact rfl) ?_;conv=>whnf))
          refine qap hE hS ?_
          conv=>whnf
          refine qat hC ?_
          conv=>whnf
          refine qap hE hS ?_
          conv=>whnf
          have hm0 :=Mk.none ht
          have hb3:1 ≤ 1 :=Nat.le_refl 1
          refine qb3 hE hS (A :=Nat × Tr AV × Nat) [77,72] (fun x hx => nomatch hx) [3,4,5,9] (fun (i,_,_) => [(1,nv 3),(2,nv (1)),(10,nv i)]) (fun (_,t,m) => [(72,.cells t m 4),(73,.cells (.node (.slc 72 0 m m) .nil .nil) 1 164)]) (fun _ => []) (fun (i,t,m) => m = 216001 ∧ (0) ≤ i ∧ i ≤ TL.length ∧ Mk t m (fun x => (False) ∨ ∃ z,PW TL 2 (0) i z ∧ x = (1) * z)) (fun (i,_,_) => TL.length - i) (0,t,216001) (Nat.le_of_ble_eq_true rfl) trivial rfl (by refine ⟨rfl,rfl,rfl,rfl,rfl,rfl,80,rfl,?_,?_,?_,?_,by kernel_rfl⟩ <;> repeat' (first | exact Mk.bd hm0 | exact Mk.bd hmq1 | exact Mk.bd hmq2 | exact bz lU | exact bz lU8 | exact bz lT | exact bz lN | exact slE3 | exact OWk.eq slE3 | exact zZ | apply And.intro)) ⟨rfl,Nat.le_refl _,Nat.zero_le _,hm0.ext fun x _ => ⟨.inl,fun h => h.resolve_right fun ⟨z,h,_⟩ => qg7 h⟩⟩ ?_
          rintro ⟨i3,t3,m3⟩ ⟨em3,hf3,hl3,hm3⟩ N hN
          obtain rfl:N = 80 :=hN
          conv=>whnf
          by_cases hi3:i3 < TL.length
          ·refine qaa ((show decide (Int.ofNat i3 < ((zl TL).length:Int)) = true from zT (by rw [qax];show (i3:Int) < _;omega))) ?_
           conv=>whnf
           have hn3:nth (ivs (zl TL)) (i3 * 1) = some (nv (gn TL i3)) :=by rw [qa4 (by rw [qax];exact hi3),qcw TL hi3]
           have hg3 :=h60 _ (qbd TL hi3)
           have hb2:(1) * gn TL i3 ≤ 60 :=Nat.mul_le_mul hb3 hg3
           have hnow2:IntKind.i64.wrap (Int.ofNat (1) * Int.ofNat (gn TL i3)) = Int.ofNat ((1) * gn TL i3) :=mulN (by omega)
           have hleft2:IntKind.i64.wrap (Int.ofNat 3 - 1) = Int.ofNat 2 :=qas (by decide) (by decide)
           have hi13:IntKind.i64.wrap (Int.ofNat i3 + 1) = Int.ofNat (i3 + 1) :=qa2 (m :=i3 + 1) (by omega)
           refine qaa (qaf (show i3 < (zl TL).length by rw [qax];exact hi3)) ?_
           conv=>whnf
           refine qac (nthP (hn3)) ?_
           conv=>whnf
           refine qat hC ?_
           conv=>whnf
           refine qap hE hS ?_
           conv=>whnf
           refine qad ((show (IntKind.i64.wrap (Int.ofNat 3 - 1) == 0) = false by rw [hleft2];rfl)) ?_
           conv=>whnf
           refine qb3 hE hS (A :=Nat × Tr AV × Nat) [72,77] (fun x hx => nomatch hx) [3,4,5,9] (fun (i,_,_) => [(1,nv 2),(2,nv ((1) * gn TL i3)),(10,nv i)]) (fun (_,t,m) => [(72,.cells t m 4),(73,.cells (.node (.slc 72 0 m m) .nil .nil) 1 164)]) (fun _ => []) (fun (i,t,m) => m = 216001 ∧ (i3) ≤ i ∧ i ≤ TL.length ∧ Mk t m (fun x => ((False) ∨ ∃ z,PW TL 2 (0) i3 z ∧ x = (1) * z) ∨ ∃ z,PW TL 1 (i3) i z ∧ x = ((1) * gn TL i3) * z)) (fun (i,_,_) => TL.length - i) (i3,t3,m3) (Nat.le_of_ble_eq_true rfl) trivial rfl (by refine ⟨rfl,rfl,rfl,rfl,rfl,rfl,93,rfl,?_,?_,?_,?_,by kernel_rfl⟩ <;> repeat' (first | exact Mk.bd hm3 | exact Mk.bd hmq1 | exact Mk.bd hmq2 | exact bz lU | exact bz lU8 | exact bz lT | exact bz lN | exact zZ | apply And.intro)) ⟨em3,Nat.le_refl _,Nat.le_of_lt hi3,hm3.ext fun x _ => ⟨.inl,fun h => h.resolve_right fun ⟨z,h,_⟩ => qg7 h⟩⟩ ?_
           rintro ⟨i2,t2,m2⟩ ⟨em2,hf2,hl2,hm2⟩ N hN
           obtain rfl:N = 93 :=hN
           conv=>whnf
           by_cases hi2:i2 < TL.length
           ·refine qaa ((show decide (Int.ofNat i2 < ((zl TL).length:Int)) = true from zT (by rw [qax];show (i2:Int) < _;omega))) ?_
            conv=>whnf
            have hn2:nth (ivs (zl TL)) (i2 * 1) = some (nv (gn TL i2)) :=by rw [qa4 (by rw [qax];exact hi2),qcw TL hi2]
            have hg2 :=h60 _ (qbd TL hi2)
            have hb1:((1) * gn TL i3) * gn TL i2 ≤ 3600 :=Nat.mul_le_mul hb2 hg2
            have hnow1:IntKind.i64.wrap (Int.ofNat ((1) * gn TL i3) * Int.ofNat (gn TL i2)) = Int.ofNat (((1) * gn TL i3) * gn TL i2) :=mulN (by omega)
            have hleft1:IntKind.i64.wrap (Int.ofNat 2 - 1) = Int.ofNat 1 :=qas (by decide) (by decide)
            have hi12:IntKind.i64.wrap (Int.ofNat i2 + 1) = Int.ofNat (i2 + 1) :=qa2 (m :=i2 + 1) (by omega)
            refine qaa (qaf (show i2 < (zl TL).length by rw [qax];exact hi2)) ?_
            conv=>whnf
            refine qac (nthP (hn2)) ?_
            conv=>whnf
            refine qat hC ?_
            conv=>whnf
            refine qap hE hS ?_
            conv=>whnf
            refine qad ((show (IntKind.i64.wrap (Int.ofNat 2 - 1) == 0) = false by rw [hleft1];rfl)) ?_
            conv=>whnf
            refine qb3 hE hS (A :=Nat × Tr AV × Nat) [77,72] (fun x hx => nomatch hx) [3,4,5,9] (fun (i,_,_) => [(1,nv 1),(2,nv (((1) * gn TL i3) * gn TL i2)),(10,nv i)]) (fun (_,t,m) => [(72,.cells t m 4),(73,.cells (.node (.slc 72 0 m m) .nil .nil) 1 164)]) (fun _ => []) (fun (i,t,m) => m = 216001 ∧ (i2) ≤ i ∧ i ≤ TL.length ∧ Mk t m (fun x => (((False) ∨ ∃ z,PW TL 2 (0) i3 z ∧ x = (1) * z) ∨ ∃ z,PW TL 1 (i3) i2 z ∧ x = ((1) * gn TL i3) * z) ∨ ∃ z,PW TL 0 (i2) i z ∧ x = (((1) * gn TL i3) * gn TL i2) * z)) (fun (i,_,_) => TL.length - i) (i2,t2,m2) (Nat.le_of_ble_eq_true rfl) trivial rfl (by refine ⟨rfl,rfl,rfl,rfl,rfl,rfl,106,rfl,?_,?_,?_,?_,by kernel_rfl⟩ <;> repeat' (first | exact Mk.bd hm2 | exact Mk.bd hmq1 | exact Mk.bd hmq2 | exact bz lU | exact bz lU8 | exact bz lT | exact bz lN | exact zZ | apply And.intro)) ⟨em2,Nat.le_refl _,Nat.le_of_lt hi2,hm2.ext fun x _ => ⟨.inl,fun h => h.resolve_right fun ⟨z,h,_⟩ => qg7 h⟩⟩ ?_
            rintro ⟨i1,t1,m1⟩ ⟨em1,hf1,hl1,hm1⟩ N hN
            obtain rfl:N = 106 :=hN
            conv=>whnf
            by_cases hi1:i1 < TL.length
            ·refine qaa ((show decide (Int.ofNat i1 < ((zl TL).length:Int)) = true from zT (by rw [qax];show (i1:Int) < _;omega))) ?_
             conv=>whnf
             have hn1:nth (ivs (zl TL)) (i1 * 1) = some (nv (gn TL i1)) :=by rw [qa4 (by rw [qax];exact hi1),qcw TL hi1]
             have hg1 :=h60 _ (qbd TL hi1)
             have hb0:(((1) * gn TL i3) * gn TL i2) * gn TL i1 ≤ 216000 :=Nat.mul_le_mul hb1 hg1
             have hnow0:IntKind.i64.wrap (Int.ofNat (((1) * gn TL i3) * gn TL i2) * Int.ofNat (gn TL i1)) = Int.ofNat ((((1) * gn TL i3) * gn TL i2) * gn TL i1) :=mulN (by omega)
             have hleft0:IntKind.i64.wrap (Int.ofNat 1 - 1) = Int.ofNat 0 :=qas (by decide) (by decide)
             have hi11:IntKind.i64.wrap (Int.ofNat i1 + 1) = Int.ofNat (i1 + 1) :=qa2 (m :=i1 + 1) (by omega)
             refine qaa (qaf (show i1 < (zl TL).length by rw [qax];exact hi1)) ?_
             conv=>whnf
             refine qac (nthP (hn1)) ?_
             conv=>whnf
             refine qat hC ?_
             conv=>whnf
             refine qap hE hS ?_
             conv=>whnf
             refine qaa ((show (IntKind.i64.wrap (Int.ofNat 1 - 1) == 0) = true by rw [hleft0];rfl)) ?_
             conv=>whnf
             refine qau hE hS ?_
             conv=>whnf
             refine qau hE hS ?_
             conv=>whnf
             refine qaa ((show inR (IntKind.i64.wrap (Int.ofNat (((1) * gn TL i3) * gn TL i2) * Int.ofNat (gn TL i1))) m1 = true by rw [hnow0];exact qaf (by omega))) ?_
             conv=>whnf
             have eo:0 + (IntKind.i64.wrap (Int.ofNat (((1) * gn TL i3) * gn TL i2) * Int.ofNat (gn TL i1))).toNat * 1 = (((1) * gn TL i3) * gn TL i2) * gn TL i1 :=by rw [hnow0];show 0 + (((1) * gn TL i3) * gn TL i2) * gn TL i1 * 1 = _;omega
             refine qaa ((show Nat.ble (0 + (IntKind.i64.wrap (Int.ofNat (((1) * gn TL i3) * gn TL i2) * Int.ofNat (gn TL i1))).toNat * 1 + 1) m1 = true by rw [eo];exact Nat.ble_eq_true_of_le (by omega))) ?_
             conv=>whnf
             have hget :=hm1.at (x :=(((1) * gn TL i3) * gn TL i2) * gn TL i1) (by omega)
             have hset :=hm1.set (i :=(((1) * gn TL i3) * gn TL i2) * gn TL i1) (by omega)
             rw [← eo] at hget
             refine qki hget ?_
             conv=>whnf
             refine zd hS ?_
             conv=>whnf
             exact ⟨(i1 + 1,tset (pathOf ((((1) * gn TL i3) * gn TL i2) * gn TL i1)) t1 (.bool true),m1),⟨em1,by omega,hi1,hset.ext fun x _ => qo1 hf1 _⟩,by show TL.length - (i1 + 1) < TL.length - i1;omega,Nat.le_refl _,(by refine ⟨rfl,rfl,rfl,rfl,rfl,rfl,106,rfl,?_,?_,?_,?_,by kernel_rfl⟩ <;> repeat' (first | exact Mk.bd hset | exact Mk.bd hmq1 | exact Mk.bd hmq2 | exact bz lU | exact bz lU8 | exact bz lT | exact bz lN | exact OWk.eq (qh2 eo) | exact zZ | apply And.intro))⟩
            ·refine qad ((show decide (Int.ofNat i1 < ((zl TL).length:Int)) = false from zF (by rw [qax];show ¬ (i1:Int) < _;omega))) ?_
             conv=>whnf
             refine .inl ?_
             conv=>whnf
             refine zd hS ?_
             conv=>whnf
             have ei:i1 = TL.length :=by omega
             exact ⟨(i2 + 1,t1,m1),⟨em1,by omega,hi2,hm1.ext fun x _ => by rw [ei];exact qqz (k :=1) hf2 _⟩,by show TL.length - (i2 + 1) < TL.length - i2;omega,Nat.le_refl _,(by refine ⟨rfl,rfl,rfl,rfl,rfl,rfl,93,rfl,?_,?_,?_,?_,by kernel_rfl⟩ <;> repeat' (first | exact Mk.bd hm1 | exact Mk.bd hmq1 | exact Mk.bd hmq2 | exact bz lU | exact bz lU8 | exact bz lT | exact bz lN | exact zZ | apply And.intro))⟩
           ·refine qad ((show decide (Int.ofNat i2 < ((zl TL).length:Int)) = false from zF (by rw [qax];show ¬ (i2:Int) < _;omega))) ?_
            conv=>whnf
            refine .inl ?_
            conv=>whnf
            refine zd hS ?_
            conv=>whnf
            have ei:i2 = TL.length :=by omega
            exact ⟨(i3 + 1,t2,m2),⟨em2,by omega,hi3,hm2.ext fun x _ => by rw [ei];exact qqz (k :=2) hf3 _⟩,by show TL.length - (i3 + 1) < TL.length - i3;omega,Nat.le_refl _,(by refine ⟨rfl,rfl,rfl,rfl,rfl,rfl,80,rfl,?_,?_,?_,?_,by kernel_rfl⟩ <;> repeat' (first | exact Mk.bd hm2 | exact Mk.bd hmq1 | exact Mk.bd hmq2 | exact bz lU | exact bz lU8 | exact bz lT | exact bz lN | exact zZ | apply And.intro))⟩
          ·refine qad ((show decide (Int.ofNat i3 < ((zl TL).length:Int)) = false from zF (by rw [qax];show ¬ (i3:Int) < _;omega))) ?_
           conv=>whnf
           refine .inl ?_
           conv=>whnf
           have ei:i3 = TL.length :=by omega
           have hmk3:Mk t3 m3 (qak (fun n => n ∈ TL) 3) :=hm3.ext fun x _ => by rw [ei];exact qir
           clear hm3 hl3 hf3 hi3 ei hb3 hm0 ht
           refine qb3 hE hS (A :=Nat × AV × List AObj × Nat) [] (fun x hx => hx) [1,2,3,5,15,16] (fun (x,v,_,m) => [(7,v),(32,.slc 72 0 m m),(33,nv m),(34,nv x)]) (fun (_,_,_,m) => [(72,.cells t3 m 4),(73,.cells (.node (.slc 72 0 m m) .nil .nil) 1 164)]) (fun a => a.2.2.1) (fun (x,v,ux,m) => m = 216001 ∧ x ≤ m ∧ ((lstP (qak (fun n => n ∈ TL) 3) x) = [] ∧ v = .nils ∧ ux = [] ∨ (lstP (qak (fun n => n ∈ TL) 3) x) ≠ [] ∧ v = .lst (ivs (zl (lstP (qak (fun n => n ∈ TL) 3) x))) (lstP (qak (fun n => n ∈ TL) 3) x).length (.ch 80) ∧ ux = [.chain (lstP (qak (fun n => n ∈ TL) 3) x).length 1 3])) (fun (x,_,_,_) => 216001 - x) (0,.nils,[],m3) (Nat.le_of_ble_eq_true rfl) (by repeat' (first | exact trivial | exact Nat.lt_of_lt_of_le (Nat.lt_succ_self _) (Nat.le_of_ble_eq_true rfl) | apply And.intro)) rfl (by refine ⟨rfl,rfl,rfl,rfl,rfl,rfl,80,rfl,?_,?_,?_,?_,by kernel_rfl⟩ <;> repeat' (first | exact bz lU | exact bz lU8 | exact bz lT | exact bz lN | exact Mk.bd hmk3 | exact Mk.bd hmq1 | exact Mk.bd hmq2 | exact zZ | apply And.intro)) ⟨em3,Nat.zero_le _,.inl ⟨rfl,rfl,rfl⟩⟩ ?_
           rintro ⟨x,v,ux,mm3⟩ ⟨em,hx,hR⟩ K hK
           have hx1:x ≤ 216001 → IntKind.i64.wrap (Int.ofNat x + 1) = Int.ofNat (x + 1) :=fun h => qa2 (m :=x + 1) (by omega)
           have hg:x < mm3 → t3.get (0 + x * 1) = some (.bool (bq ((qak (fun n => n ∈ TL) 3) x))) :=fun h => by rw [show 0 + x * 1 = x by omega];exact hmk3.at (by omega)
           have hRl :=qc1 (qak (fun n => n ∈ TL) 3) x
           have hst:lstP (qak (fun n => n ∈ TL) 3) (x + 1) = @ite _ ((qak (fun n => n ∈ TL) 3) x) (Classical.propDecidable _) ((lstP (qak (fun n => n ∈ TL) 3) x) ++ [x]) (lstP (qak (fun n => n ∈ TL) 3) x) :=rfl
           rcases hR with ⟨e0,rfl,rfl⟩ | ⟨hne,rfl,rfl⟩
           ·obtain rfl:K = 80 :=hK
            conv=>whnf
            by_cases hx2:x < mm3
            ·refine qaa (qch hx2) ?_
             conv=>whnf
             refine qaa (qaf hx2) ?_
             conv=>whnf
             refine qaa (zT (show 0 + x * 1 < mm3 by omega)) ?_
             conv=>whnf
             have hg :=hg hx2
             by_cases hb:(qak (fun n => n ∈ TL) 3) x
             ·rw [bq_t hb] at hg
              rw [if_pos hb,e0] at hst
              refine qac (qbr hg) ?_
              conv=>whnf
              exact ⟨(x + 1,.lst (ivs (zl [x])) 1 (.ch 80),[.chain 1 1 3],mm3),⟨em,hx2,.inr ⟨by rw [hst];simp,by rw [hst];rfl,by rw [hst];rfl⟩⟩,by show 216001 - (x + 1) < 216001 - x;omega,Nat.zero_le _,(by refine ⟨rfl,rfl,rfl,rfl,rfl,rfl,81,rfl,?_,?_,?_,?_,by kernel_rfl⟩ <;> repeat' (first | exact bz lU | exact bz lU8 | exact bz lT | exact bz lN | exact Mk.bd hmk3 | exact Mk.bd hmq1 | exact Mk.bd hmq2 | exact ⟨_,rfl,WkV.int (hx1 (by omega))⟩ | exact zZ | apply And.intro))⟩
             ·rw [bq_f hb] at hg
              rw [if_neg hb,e0] at hst
              refine qac (qbr hg) ?_
              conv=>whnf
              exact ⟨(x + 1,.nils,[],mm3),⟨em,hx2,.inl ⟨hst,rfl,rfl⟩⟩,by show 216001 - (x + 1) < 216001 - x;omega,Nat.le_refl _,(by refine ⟨rfl,rfl,rfl,rfl,rfl,rfl,80,rfl,?_,?_,?_,?_,by kernel_rfl⟩ <;> repeat' (first | exact bz lU | exact bz lU8 | exact bz lT | exact bz lN | exact Mk.bd hmk3 | exact Mk.bd hmq1 | exact Mk.bd hmq2 | exact ⟨_,rfl,WkV.int (hx1 (by omega))⟩ | exact zZ | apply And.intro))⟩
            ·refine qad (qcl hx2) ?_
             conv=>whnf
             have ex:x = 216001 :=by omega
             rw [ex] at e0
             exact absurd e0 (qt6 hTL h60 (by decide))
           ·obtain rfl:K = 81 :=hK
            conv=>whnf
            by_cases hx2:x < mm3
            ·refine qaa (qch hx2) ?_
             conv=>whnf
             refine qaa (qaf hx2) ?_
             conv=>whnf
             refine qaa (zT (show 0 + x * 1 < mm3 by omega)) ?_
             conv=>whnf
             have hg :=hg hx2
             by_cases hb:(qak (fun n => n ∈ TL) 3) x
             ·rw [bq_t hb] at hg
              rw [if_pos hb] at hst
              refine qac (qbr hg) ?_
              conv=>whnf
              refine qaa (zT (show ((lstP (qak (fun n => n ∈ TL) 3) x).length + (0 + 1)) * 8 ≤ 140737488355328 by omega)) ?_
              conv=>whnf
              refine qaa (zT (show (lstP (qak (fun n => n ∈ TL) 3) x).length + (0 + 1) ≤ 9223372036854775807 by omega)) ?_
              conv=>whnf
              refine qaa (qge (lstP (qak (fun n => n ∈ TL) 3) x)) ?_
              conv=>whnf
              refine qaa (zT rfl) ?_
              conv=>whnf
              exact ⟨(x + 1,.lst (ivs (zl ((lstP (qak (fun n => n ∈ TL) 3) x) ++ [x]))) ((lstP (qak (fun n => n ∈ TL) 3) x) ++ [x]).length (.ch 80),[.chain ((lstP (qak (fun n => n ∈ TL) 3) x) ++ [x]).length 1 3],mm3),⟨em,hx2,.inr ⟨by rw [hst];simp,by rw [hst],by rw [hst]⟩⟩,by show 216001 - (x + 1) < 216001 - x;omega,Nat.le_refl _,(by refine ⟨rfl,rfl,rfl,rfl,rfl,rfl,81,rfl,?_,?_,?_,?_,by kernel_rfl⟩ <;> repeat' (first | exact bz lU | exact bz lU8 | exact bz lT | exact bz lN | exact Mk.bd hmk3 | exact Mk.bd hmq1 | exact Mk.bd hmq2 | exact ⟨_,rfl,WkV.int (hx1 (by omega))⟩ | exact ⟨_,rfl,WkV.eq (qnc _ _ _)⟩ | exact OWk.eq (qnd _ _) | exact zZ | apply And.intro))⟩
             ·rw [bq_f hb] at hg
              rw [if_neg hb] at hst
              refine qac (qbr hg) ?_
              conv=>whnf
              exact ⟨(x + 1,.lst (ivs (zl (lstP (qak (fun n => n ∈ TL) 3) x))) (lstP (qak (fun n => n ∈ TL) 3) x).length (.ch 80),[.chain (lstP (qak (fun n => n ∈ TL) 3) x).length 1 3],mm3),⟨em,hx2,.inr ⟨by rw [hst];exact hne,by rw [hst],by rw [hst]⟩⟩,by show 216001 - (x + 1) < 216001 - x;omega,Nat.le_refl _,(by refine ⟨rfl,rfl,rfl,rfl,rfl,rfl,81,rfl,?_,?_,?_,?_,by kernel_rfl⟩ <;> repeat' (first | exact bz lU | exact bz lU8 | exact bz lT | exact bz lN | exact Mk.bd hmk3 | exact Mk.bd hmq1 | exact Mk.bd hmq2 | exact ⟨_,rfl,WkV.int (hx1 (by omega))⟩ | exact zZ | apply And.intro))⟩
            ·refine qad (qcl hx2) ?_
             conv=>whnf
             have ex:x = 216001 :=by omega
             subst ex
             have hne3 :=hne
             have emm3 :=em
             have hmq3 :=(em.trans em3.symm) ▸ hmk3
             clear hst hg hx1 hx2 hx hne em
             refine .inl ?_
             conv=>whnf
             refine zd hS ?_
             conv=>whnf
             refine qa1 16 rfl (show AV.int .i64 (IntKind.i64.wrap (3 + 1)) = nv 4 from congrArg (AV.int .i64) (qas (by decide) (by decide))) ?_
             refine qae hE hS ?_
             conv=>whnf
             refine qad ((show decide (4 < IntKind.i64.wrap (Int.ofNat p + 1)) = false by rw [hp1];exact qcl (a :=4) (by omega))) ?_
             conv=>whnf
             refine ⟨_,rfl,?_⟩
             refine fin3 (p :=p) lN lT (by omega) (i0 :=3) (y0 :=4) ?_ (i1 :=26) (y1 :=4) (m1 :=mm1) (t1 :=t1) hne1 ?_ hmq1 emm1 (i2 :=49) (y2 :=4) (m2 :=mm2) (t2 :=t2) hne2 ?_ hmq2 emm2 (i3 :=72) (y3 :=4) (m3 :=mm3) (t3 :=t3) hne3 ?_ hmq3 emm3
             ·rfl
             ·rfl
             ·rfl
             ·rfl
         ·refine qad ((show decide (3 < IntKind.i64.wrap (Int.ofNat p + 1)) = false by rw [hp1];exact qcl (a :=3) (by omega))) ?_
          conv=>whnf
          refine ⟨_,rfl,?_⟩
          refine fin2 (p :=p) lN lT (by omega) (i0 :=3) (y0 :=4) ?_ (i1 :=26) (y1 :=4) (m1 :=mm1) (t1 :=t1) hne1 ?_ hmq1 emm1 (i2 :=49) (y2 :=4) (m2 :=mm2) (t2 :=t2) hne2 ?_ hmq2 emm2
          ·rfl
          ·rfl
          ·rfl
     ·refine qad ((show decide (2 < IntKind.i64.wrap (Int.ofNat p + 1)) = false by rw [hp1];exact qcl (a :=2) (by omega))) ?_
      conv=>whnf
      refine ⟨_,rfl,?_⟩
      refine fin1 (p :=p) lN lT (by omega) (i0 :=3) (y0 :=4) ?_ (i1 :=26) (y1 :=4) (m1 :=mm1) (t1 :=t1) hne1 ?_ hmq1 emm1
      ·rfl
      ·rfl
end
end Go.Abs.Seat
