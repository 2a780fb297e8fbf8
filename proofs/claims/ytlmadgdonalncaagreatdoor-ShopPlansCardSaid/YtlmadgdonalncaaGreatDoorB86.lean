/-
  When jobs are done: lists that are no plans.
-/
import Derived.Test.YtlmadgdonalncaaGreatDoorB82
import Derived.Test.YtlmadgdonalncaaGreatDoorU4
namespace Go.Abs.Seat
noncomputable section
open Go Go.Abs Go.Proofs.Tryz
set_option maxRecDepth 100000
set_option maxHeartbeats 40000000
attribute [local irreducible] IntKind.wrap pEq
theorem qlm {W J:List LkI} {P:List Int} {z:Nat} (hW:areW W) (hJ:areJ J) (hz:z ≤ J.length) (h:∀ i,i < z → qeh W J P i):∀ i,i ≤ z → 0 ≤ wgJ W J P i ∧ wgJ W J P i ≤ (i:Int) * 4000
 | 0,_ => ⟨Int.le_refl _,Int.le_refl _⟩
 |i + 1,hi => by
  have ih :=qlm hW hJ hz h i (by omega)
  have hp :=(h i hi).1
  have h1 :=(hJ.2 i (by omega)).1
  have h2 :=(hW.2 (gi P i).toNat (by omega)).2.2
  have h3:0 ≤ (gL J i).1 * (gL W (gi P i).toNat).2.2 :=Int.mul_nonneg (by omega) h2.1
  have h4:(gL J i).1 * (gL W (gi P i).toNat).2.2 ≤ 40 * 100 :=Int.mul_le_mul h1.2 h2.2 h2.1 (by omega)
  rw [wgJ]
  omega
theorem qr5 {W J:List LkI} {P:List Int} (hl:P.length = J.length) (hn:¬ isPl W J P):∃ z,z < P.length ∧ ¬ qeh W J P z ∧ ∀ i,i < z → qeh W J P i :=by
 have h1:∃ z,z < P.length ∧ ¬ qeh W J P z :=by
  apply Classical.byContradiction
  intro k
  exact hn ⟨hl,fun i hi => Classical.byContradiction fun c => k ⟨i,hi,c⟩⟩
 have key:∀ n,(∃ z,z < n ∧ z < P.length ∧ ¬ qeh W J P z) → ∃ z,z < P.length ∧ ¬ qeh W J P z ∧ ∀ i,i < z → qeh W J P i :=by
  intro n
  induction n with
  |zero => rintro ⟨z,h,_⟩;omega
  |succ n ih =>
   rintro ⟨z,q1,q2,q3⟩
   by_cases c:∃ y,y < z ∧ ¬ qeh W J P y
   ·obtain ⟨y,y1,y2⟩ :=c
    exact ih ⟨y,by omega,by omega,y2⟩
   ·exact ⟨z,q2,q3,fun i hi => Classical.byContradiction fun k => c ⟨i,hi,k⟩⟩
 obtain ⟨z,h2,h3⟩ :=h1
 exact key (z + 1) ⟨z,Nat.lt_succ_self z,h2,h3⟩
theorem qmy {W J:List LkI} {P:List Int} (hl:P.length ≠ J.length) (_hp:P.length ≤ 8):qm9 prog 73 [lkA W,lkA J,nl P] [(.iface 122 (.agg [iv (P.length:Int)]),false)] :=by
 have lW :=qay W
 have lJ :=qay J
 have lP :=qat P
 refine qfp hE rfl (by repeat' first|exact trivial|assumption|exact qag _|exact fun _ h => nomatch h|apply And.intro) (by simp [Live,Lives]) fun S q pc hS hq hC hE => ?_
 conv => whnf
 refine qaa ((show (Int.ofNat P.length != Int.ofNat J.length) = true from bne_iff_ne.2 fun z => hl (Int.ofNat.inj z))) ?_
 conv => whnf
 rfl
theorem qmx {W J:List LkI} (hl:1 ≤ J.length):qm9 prog 73 [lkA W,lkA J,.nils] [(.iface 122 (.agg [iv 0]),false)] :=by
 have lW :=qay W
 have lJ :=qay J
 refine qfp hE rfl (by repeat' first|exact trivial|assumption|exact qag _|exact fun _ h => nomatch h|apply And.intro) (by simp [Live,Lives]) fun S q pc hS hq hC hE => ?_
 conv => whnf
 refine qaa ((show ((0:Int) != Int.ofNat J.length) = true from bne_iff_ne.2 fun z => by have:(0:Int) = (J.length:Int) :=z;omega)) ?_
 conv => whnf
 rfl
theorem qmz {W J:List LkI} {P:List Int} (hW:areW W) (hJ:areJ J) (hl:P.length = J.length) {z:Nat} (hzP:z < P.length) (hb:¬ qeh W J P z) (h:∀ i,i < z → qeh W J P i):qm9 prog 73 [lkA W,lkA J,nl P] [(.iface 122 (.agg [nv z]),false)] :=by
 have lW :=qay W
 have lJ :=qay J
 have lP :=qat P
 have hm6:P.length ≤ 6 :=by rw [hl];exact hJ.1.2
 have hw3 :=hW.1.2
 have hzJ:z ≤ J.length :=by omega
 refine qfp (hEM muD) rfl (by repeat' first|exact trivial|assumption|exact qag _|exact fun _ h => nomatch h|apply And.intro) (by simp [Live,Lives]) fun S q pc hS hq hC hE => ?_
 conv => whnf
 refine qac ((show (Int.ofNat P.length != Int.ofNat J.length) = false by rw [hl];exact bne_self_eq_false _)) ?_
 conv => whnf
 refine qaz hE hS (A :=Nat × List Row) [0,2,4,6,7,8,28,29] (fun (i,_) => [(9,iv (wgJ W J P i)),(30,nv i)]) (fun (_,L) => [(1,.mapo (mE 21 L))]) (fun (_,L) => mX L) (fun (i,L) => i ≤ z ∧ L = qcr P i) (fun (i,_) => z - i) (0,[]) (kle rfl) rfl (by refine ⟨rfl,rfl,rfl,rfl,rfl,rfl,2,rfl,?_,?_⟩ <;> repeat' (first|exact trivial|exact rfl|exact wkr rfl|exact wko rfl|exact Nat.zero_le _|exact qad lP|exact qad lW|exact qad lJ|exact kle rfl|exact bdq|exact mxI rfl|exact mxS rfl|apply And.intro)) ⟨Nat.zero_le _,rfl⟩ ?_
 rintro ⟨i,L⟩ ⟨hi,hL⟩ K hK
 have hi:i ≤ z :=hi
 have hL:L = qcr P i :=hL
 have hRo:RowsOk P i L :=by rw [hL];exact qg2 P i
 have hi2:i < P.length :=by omega
 by_cases hiz:i < z
 ·have hj :=h i hiz
  have hi1:IntKind.i64.wrap (Int.ofNat i + 1) = Int.ofNat (i + 1) :=qa5 (m :=i + 1) (by omega)
  have hwr:IntKind.i64.wrap ((W.length:Int) - 1) = (W.length:Int) - 1 :=qd8 (by omega) (by omega)
  have hiJ:i < J.length :=by omega
  have q0 :=hj.1
  have q1 :=hj.2
  have hpw:(gi P i).toNat < W.length :=by omega
  have iw:inR (gi P i) W.length = true :=by
   rw [show gi P i = Int.ofNat (gi P i).toNat from (Int.toNat_of_nonneg q0.1).symm]
   exact qaj hpw
  have gp :=qbb (l :=P) (i :=i) hi2
  have g1 :=qbq J i hiJ
  have g0 :=qbe J i hiJ
  have gw :=qbe W (gi P i).toNat hpw
  have gw2 :=qbu W (gi P i).toNat hpw
  have b1 :=qlm hW hJ hzJ h i hi
  have b2 :=qlm hW hJ hzJ h (i + 1) hiz
  have hw:IntKind.i64.wrap (wgJ W J P i + IntKind.i64.wrap ((gL J i).1 * (gL W (gi P i).toNat).2.2)) = wgJ W J P (i + 1) :=by
   rw [wgJ] at b2 ⊢
   rw [show IntKind.i64.wrap ((gL J i).1 * (gL W (gi P i).toNat).2.2) = (gL J i).1 * (gL W (gi P i).toNat).2.2 from qd8 (by omega) (by omega)]
   exact qd8 (by omega) (by omega)
  have e1:(!decide (0 ≤ gi P i ∧ gi P i ≤ IntKind.i64.wrap ((W.length:Int) - 1))) = false :=nt_t (decide_eq_true (by rw [hwr];exact q0))
  have e2:decide ((gL W (gi P i).toNat).1 < (gL J i).2.1) = false :=decide_eq_false (by omega)
  have hiO:i + 1 ≤ z :=hiz
  rcases L with _ | ⟨⟨k1,f1,x1,c1⟩,_ | ⟨⟨k2,f2,x2,c2⟩,_ | ⟨⟨k3,f3,x3,c3⟩,_ | ⟨r4,L⟩⟩⟩⟩
  ·obtain rfl:K = 2 :=hK
   have hx1:∃ l,([]:List AV) = nvs l :=⟨[],rfl⟩
   have hx2:∃ l,([]:List AV) = nvs l :=⟨[],rfl⟩
   have hx3:∃ l,([]:List AV) = nvs l :=⟨[],rfl⟩
   have hf:qb1 prog seatT 3 (iv (gi P i)) (mE 21 []) 0 = some none :=by rfl
   conv => whnf
   try have z167:=qav hi2
   try have z168:=qaj hi2
   try have z169:=qaj hiJ
   repeat ((first|refine qaf (nthP gp) ?_|refine qaf (nthP g1) ?_|refine qaf (nthP gw) ?_|refine qaf (nthP g0) ?_|refine qaf (nthP gw2) ?_|refine qaf (qpg hf) ?_|refine qaf (qif hf) ?_|refine qai ‹_› ?_|refine qah ‹_› ?_|refine pkT ‹_› ?_|refine qaa ‹_› ?_|refine qao ‹_› ?_|refine qap ‹_› ?_|refine pkF ‹_› ?_|refine qac ‹_› ?_|refine qai (gff ‹_›) ?_|refine qah (gff ‹_›) ?_|refine pkT (gff ‹_›) ?_|refine qaa (gff ‹_›) ?_|refine qab hC (qau (gi P i) 0 (IntKind.i64.wrap ((W.length:Int) - 1))) ?_|refine qae hS (by kernel_rfl) ?_);conv => whnf)
   exact ⟨(i + 1,[(gi P i,Int.ofNat i,[nv i],1)]),⟨hiO,by show _ = addR (gi P i) i (qcr P i);rw [← hL];rw [addR]⟩,by show z - (i + 1) < z - i;omega,kle rfl,(by refine ⟨rfl,rfl,rfl,rfl,rfl,rfl,22,rfl,?_,?_⟩ <;> repeat' (first|exact trivial|exact rfl|exact wkr rfl|exact wko rfl|exact Nat.zero_le _|exact ⟨_,rfl,WkV.int hw⟩|exact ⟨_,rfl,WkV.int hi1⟩|exact qad lP|exact qad lW|exact qad lJ|exact qa7 hx1|exact qa7 hx2|exact qa7 hx3|exact qa9 hx1|exact qa9 hx2|exact qa9 hx3|exact kle rfl|exact bdq|exact mxI rfl|exact mxS rfl|apply And.intro))⟩
  ·obtain rfl:K = 22 :=hK
   have r1 :=hRo.ok (k1,f1,x1,c1) (by simp)
   have hx1:∃ l,x1 = nvs l :=⟨_,r1.xs⟩
   have hc1:1 ≤ c1 ∧ c1 ≤ i :=r1.pos
   have hx2:∃ l,([]:List AV) = nvs l :=⟨[],rfl⟩
   have hx3:∃ l,([]:List AV) = nvs l :=⟨[],rfl⟩
   by_cases n1:gi P i = k1
   ·have hf:qb1 prog seatT 3 (iv (gi P i)) (mE 21 [(k1,f1,x1,c1)]) 0 = some (some (0,.lst [] c1 (.ch 21))) :=by rw [mE,qby,if_pos n1]
    have hk:qdx (mE 21 [(k1,f1,x1,c1)]) 0 = some (iv (gi P i)) :=by rw [n1];rfl
    have d1:decide ((c1 + (0 + 1)) * 8 ≤ 140737488355328) = true :=decide_eq_true (by omega)
    have d2:decide (c1 + (0 + 1) ≤ 9223372036854775807) = true :=decide_eq_true (by omega)
    have d3:decide (c1 = c1) = true :=decide_eq_true rfl
    conv => whnf
    try have z170:=qav hi2
    try have z171:=qaj hi2
    try have z172:=qaj hiJ
    repeat ((first|refine qaf (nthP gp) ?_|refine qaf (nthP g1) ?_|refine qaf (nthP gw) ?_|refine qaf (nthP g0) ?_|refine qaf (nthP gw2) ?_|refine qaf (qeg hf) ?_|refine qaf (qc6 hf hk) ?_|refine qai ‹_› ?_|refine qah ‹_› ?_|refine pkT ‹_› ?_|refine qaa ‹_› ?_|refine qao ‹_› ?_|refine qap ‹_› ?_|refine pkF ‹_› ?_|refine qac ‹_› ?_|refine qai (gff ‹_›) ?_|refine qah (gff ‹_›) ?_|refine pkT (gff ‹_›) ?_|refine qaa (gff ‹_›) ?_|refine qab hC (qau (gi P i) 0 (IntKind.i64.wrap ((W.length:Int) - 1))) ?_|refine qae hS (by kernel_rfl) ?_);conv => whnf)
    exact ⟨(i + 1,[(gi P i,f1,x1 ++ [nv i],c1 + 1)]),⟨hiO,by show _ = addR (gi P i) i (qcr P i);rw [← hL];rw [addR,if_pos n1.symm];rw [n1]⟩,by show z - (i + 1) < z - i;omega,kle rfl,(by refine ⟨rfl,rfl,rfl,rfl,rfl,rfl,22,rfl,?_,?_⟩ <;> repeat' (first|exact trivial|exact rfl|exact wkr rfl|exact wko rfl|exact Nat.zero_le _|exact ⟨_,rfl,WkV.int hw⟩|exact ⟨_,rfl,WkV.int hi1⟩|exact qad lP|exact qad lW|exact qad lJ|exact qa7 hx1|exact qa7 hx2|exact qa7 hx3|exact qa9 hx1|exact qa9 hx2|exact qa9 hx3|exact kle rfl|exact bdq|exact mxI rfl|exact mxS rfl|apply And.intro))⟩
   ·skip
    have hf:qb1 prog seatT 3 (iv (gi P i)) (mE 21 [(k1,f1,x1,c1)]) 0 = some none :=by rw [mE,qby,if_neg n1];rfl
    conv => whnf
    try have z173:=qav hi2
    try have z174:=qaj hi2
    try have z175:=qaj hiJ
    repeat ((first|refine qaf (nthP gp) ?_|refine qaf (nthP g1) ?_|refine qaf (nthP gw) ?_|refine qaf (nthP g0) ?_|refine qaf (nthP gw2) ?_|refine qaf (qpg hf) ?_|refine qaf (qif hf) ?_|refine qai ‹_› ?_|refine qah ‹_› ?_|refine pkT ‹_› ?_|refine qaa ‹_› ?_|refine qao ‹_› ?_|refine qap ‹_› ?_|refine pkF ‹_› ?_|refine qac ‹_› ?_|refine qai (gff ‹_›) ?_|refine qah (gff ‹_›) ?_|refine pkT (gff ‹_›) ?_|refine qaa (gff ‹_›) ?_|refine qab hC (qau (gi P i) 0 (IntKind.i64.wrap ((W.length:Int) - 1))) ?_|refine qae hS (by kernel_rfl) ?_);conv => whnf)
    exact ⟨(i + 1,[(k1,f1,x1,c1),(gi P i,Int.ofNat i,[nv i],1)]),⟨hiO,by show _ = addR (gi P i) i (qcr P i);rw [← hL];rw [addR,if_neg (Ne.symm n1)];rw [addR]⟩,by show z - (i + 1) < z - i;omega,kle rfl,(by refine ⟨rfl,rfl,rfl,rfl,rfl,rfl,42,rfl,?_,?_⟩ <;> repeat' (first|exact trivial|exact rfl|exact wkr rfl|exact wko rfl|exact Nat.zero_le _|exact ⟨_,rfl,WkV.int hw⟩|exact ⟨_,rfl,WkV.int hi1⟩|exact qad lP|exact qad lW|exact qad lJ|exact qa7 hx1|exact qa7 hx2|exact qa7 hx3|exact qa9 hx1|exact qa9 hx2|exact qa9 hx3|exact kle rfl|exact bdq|exact mxI rfl|exact mxS rfl|apply And.intro))⟩
  ·obtain rfl:K = 42 :=hK
   have r1 :=hRo.ok (k1,f1,x1,c1) (by simp)
   have hx1:∃ l,x1 = nvs l :=⟨_,r1.xs⟩
   have hc1:1 ≤ c1 ∧ c1 ≤ i :=r1.pos
   have r2 :=hRo.ok (k2,f2,x2,c2) (by simp)
   have hx2:∃ l,x2 = nvs l :=⟨_,r2.xs⟩
   have hc2:1 ≤ c2 ∧ c2 ≤ i :=r2.pos
   have hx3:∃ l,([]:List AV) = nvs l :=⟨[],rfl⟩
   by_cases n1:gi P i = k1
   ·have hf:qb1 prog seatT 3 (iv (gi P i)) (mE 21 [(k1,f1,x1,c1),(k2,f2,x2,c2)]) 0 = some (some (0,.lst [] c1 (.ch 21))) :=by rw [mE,qby,if_pos n1]
    have hk:qdx (mE 21 [(k1,f1,x1,c1),(k2,f2,x2,c2)]) 0 = some (iv (gi P i)) :=by rw [n1];rfl
    have d1:decide ((c1 + (0 + 1)) * 8 ≤ 140737488355328) = true :=decide_eq_true (by omega)
    have d2:decide (c1 + (0 + 1) ≤ 9223372036854775807) = true :=decide_eq_true (by omega)
    have d3:decide (c1 = c1) = true :=decide_eq_true rfl
    conv => whnf
    try have z176:=qav hi2
    try have z177:=qaj hi2
    try have z178:=qaj hiJ
    repeat ((first|refine qaf (nthP gp) ?_|refine qaf (nthP g1) ?_|refine qaf (nthP gw) ?_|refine qaf (nthP g0) ?_|refine qaf (nthP gw2) ?_|refine qaf (qeg hf) ?_|refine qaf (qc6 hf hk) ?_|refine qai ‹_› ?_|refine qah ‹_› ?_|refine pkT ‹_› ?_|refine qaa ‹_› ?_|refine qao ‹_› ?_|refine qap ‹_› ?_|refine pkF ‹_› ?_|refine qac ‹_› ?_|refine qai (gff ‹_›) ?_|refine qah (gff ‹_›) ?_|refine pkT (gff ‹_›) ?_|refine qaa (gff ‹_›) ?_|refine qab hC (qau (gi P i) 0 (IntKind.i64.wrap ((W.length:Int) - 1))) ?_|refine qae hS (by kernel_rfl) ?_);conv => whnf)
    exact ⟨(i + 1,[(gi P i,f1,x1 ++ [nv i],c1 + 1),(k2,f2,x2,c2)]),⟨hiO,by show _ = addR (gi P i) i (qcr P i);rw [← hL];rw [addR,if_pos n1.symm];rw [n1]⟩,by show z - (i + 1) < z - i;omega,kle rfl,(by refine ⟨rfl,rfl,rfl,rfl,rfl,rfl,42,rfl,?_,?_⟩ <;> repeat' (first|exact trivial|exact rfl|exact wkr rfl|exact wko rfl|exact Nat.zero_le _|exact ⟨_,rfl,WkV.int hw⟩|exact ⟨_,rfl,WkV.int hi1⟩|exact qad lP|exact qad lW|exact qad lJ|exact qa7 hx1|exact qa7 hx2|exact qa7 hx3|exact qa9 hx1|exact qa9 hx2|exact qa9 hx3|exact kle rfl|exact bdq|exact mxI rfl|exact mxS rfl|apply And.intro))⟩
   ·skip
    by_cases n2:gi P i = k2
    ·have hf:qb1 prog seatT 3 (iv (gi P i)) (mE 21 [(k1,f1,x1,c1),(k2,f2,x2,c2)]) 0 = some (some (1,.lst [] c2 (.ch 41))) :=by rw [mE,qby,if_neg n1];rw [mE,qby,if_pos n2]
     have hk:qdx (mE 21 [(k1,f1,x1,c1),(k2,f2,x2,c2)]) 1 = some (iv (gi P i)) :=by rw [n2];rfl
     have d1:decide ((c2 + (0 + 1)) * 8 ≤ 140737488355328) = true :=decide_eq_true (by omega)
     have d2:decide (c2 + (0 + 1) ≤ 9223372036854775807) = true :=decide_eq_true (by omega)
     have d3:decide (c2 = c2) = true :=decide_eq_true rfl
     conv => whnf
     try have z179:=qav hi2
     try have z180:=qaj hi2
     try have z181:=qaj hiJ
     repeat ((first|refine qaf (nthP gp) ?_|refine qaf (nthP g1) ?_|refine qaf (nthP gw) ?_|refine qaf (nthP g0) ?_|refine qaf (nthP gw2) ?_|refine qaf (qeg hf) ?_|refine qaf (qc6 hf hk) ?_|refine qai ‹_› ?_|refine qah ‹_› ?_|refine pkT ‹_› ?_|refine qaa ‹_› ?_|refine qao ‹_› ?_|refine qap ‹_› ?_|refine pkF ‹_› ?_|refine qac ‹_› ?_|refine qai (gff ‹_›) ?_|refine qah (gff ‹_›) ?_|refine pkT (gff ‹_›) ?_|refine qaa (gff ‹_›) ?_|refine qab hC (qau (gi P i) 0 (IntKind.i64.wrap ((W.length:Int) - 1))) ?_|refine qae hS (by kernel_rfl) ?_);conv => whnf)
     exact ⟨(i + 1,[(k1,f1,x1,c1),(gi P i,f2,x2 ++ [nv i],c2 + 1)]),⟨hiO,by show _ = addR (gi P i) i (qcr P i);rw [← hL];rw [addR,if_neg (Ne.symm n1)];rw [addR,if_pos n2.symm];rw [n2]⟩,by show z - (i + 1) < z - i;omega,kle rfl,(by refine ⟨rfl,rfl,rfl,rfl,rfl,rfl,42,rfl,?_,?_⟩ <;> repeat' (first|exact trivial|exact rfl|exact wkr rfl|exact wko rfl|exact Nat.zero_le _|exact ⟨_,rfl,WkV.int hw⟩|exact ⟨_,rfl,WkV.int hi1⟩|exact qad lP|exact qad lW|exact qad lJ|exact qa7 hx1|exact qa7 hx2|exact qa7 hx3|exact qa9 hx1|exact qa9 hx2|exact qa9 hx3|exact kle rfl|exact bdq|exact mxI rfl|exact mxS rfl|apply And.intro))⟩
    ·skip
     have hf:qb1 prog seatT 3 (iv (gi P i)) (mE 21 [(k1,f1,x1,c1),(k2,f2,x2,c2)]) 0 = some none :=by rw [mE,qby,if_neg n1];rw [mE,qby,if_neg n2];rfl
     conv => whnf
     try have z182:=qav hi2
     try have z183:=qaj hi2
     try have z184:=qaj hiJ
     repeat ((first|refine qaf (nthP gp) ?_|refine qaf (nthP g1) ?_|refine qaf (nthP gw) ?_|refine qaf (nthP g0) ?_|refine qaf (nthP gw2) ?_|refine qaf (qpg hf) ?_|refine qaf (qif hf) ?_|refine qai ‹_› ?_|refine qah ‹_› ?_|refine pkT ‹_› ?_|refine qaa ‹_› ?_|refine qao ‹_› ?_|refine qap ‹_› ?_|refine pkF ‹_› ?_|refine qac ‹_› ?_|refine qai (gff ‹_›) ?_|refine qah (gff ‹_›) ?_|refine pkT (gff ‹_›) ?_|refine qaa (gff ‹_›) ?_|refine qab hC (qau (gi P i) 0 (IntKind.i64.wrap ((W.length:Int) - 1))) ?_|refine qae hS (by kernel_rfl) ?_);conv => whnf)
     exact ⟨(i + 1,[(k1,f1,x1,c1),(k2,f2,x2,c2),(gi P i,Int.ofNat i,[nv i],1)]),⟨hiO,by show _ = addR (gi P i) i (qcr P i);rw [← hL];rw [addR,if_neg (Ne.symm n1)];rw [addR,if_neg (Ne.symm n2)];rw [addR]⟩,by show z - (i + 1) < z - i;omega,kle rfl,(by refine ⟨rfl,rfl,rfl,rfl,rfl,rfl,62,rfl,?_,?_⟩ <;> repeat' (first|exact trivial|exact rfl|exact wkr rfl|exact wko rfl|exact Nat.zero_le _|exact ⟨_,rfl,WkV.int hw⟩|exact ⟨_,rfl,WkV.int hi1⟩|exact qad lP|exact qad lW|exact qad lJ|exact qa7 hx1|exact qa7 hx2|exact qa7 hx3|exact qa9 hx1|exact qa9 hx2|exact qa9 hx3|exact kle rfl|exact bdq|exact mxI rfl|exact mxS rfl|apply And.intro))⟩
  ·obtain rfl:K = 62 :=hK
   have r1 :=hRo.ok (k1,f1,x1,c1) (by simp)
   have hx1:∃ l,x1 = nvs l :=⟨_,r1.xs⟩
   have hc1:1 ≤ c1 ∧ c1 ≤ i :=r1.pos
   have r2 :=hRo.ok (k2,f2,x2,c2) (by simp)
   have hx2:∃ l,x2 = nvs l :=⟨_,r2.xs⟩
   have hc2:1 ≤ c2 ∧ c2 ≤ i :=r2.pos
   have r3 :=hRo.ok (k3,f3,x3,c3) (by simp)
   have hx3:∃ l,x3 = nvs l :=⟨_,r3.xs⟩
   have hc3:1 ≤ c3 ∧ c3 ≤ i :=r3.pos
   by_cases n1:gi P i = k1
   ·have hf:qb1 prog seatT 3 (iv (gi P i)) (mE 21 [(k1,f1,x1,c1),(k2,f2,x2,c2),(k3,f3,x3,c3)]) 0 = some (some (0,.lst [] c1 (.ch 21))) :=by rw [mE,qby,if_pos n1]
    have hk:qdx (mE 21 [(k1,f1,x1,c1),(k2,f2,x2,c2),(k3,f3,x3,c3)]) 0 = some (iv (gi P i)) :=by rw [n1];rfl
    have d1:decide ((c1 + (0 + 1)) * 8 ≤ 140737488355328) = true :=decide_eq_true (by omega)
    have d2:decide (c1 + (0 + 1) ≤ 9223372036854775807) = true :=decide_eq_true (by omega)
    have d3:decide (c1 = c1) = true :=decide_eq_true rfl
    conv => whnf
    try have z185:=qav hi2
    try have z186:=qaj hi2
    try have z187:=qaj hiJ
    repeat ((first|refine qaf (nthP gp) ?_|refine qaf (nthP g1) ?_|refine qaf (nthP gw) ?_|refine qaf (nthP g0) ?_|refine qaf (nthP gw2) ?_|refine qaf (qeg hf) ?_|refine qaf (qc6 hf hk) ?_|refine qai ‹_› ?_|refine qah ‹_› ?_|refine pkT ‹_› ?_|refine qaa ‹_› ?_|refine qao ‹_› ?_|refine qap ‹_› ?_|refine pkF ‹_› ?_|refine qac ‹_› ?_|refine qai (gff ‹_›) ?_|refine qah (gff ‹_›) ?_|refine pkT (gff ‹_›) ?_|refine qaa (gff ‹_›) ?_|refine qab hC (qau (gi P i) 0 (IntKind.i64.wrap ((W.length:Int) - 1))) ?_|refine qae hS (by kernel_rfl) ?_);conv => whnf)
    exact ⟨(i + 1,[(gi P i,f1,x1 ++ [nv i],c1 + 1),(k2,f2,x2,c2),(k3,f3,x3,c3)]),⟨hiO,by show _ = addR (gi P i) i (qcr P i);rw [← hL];rw [addR,if_pos n1.symm];rw [n1]⟩,by show z - (i + 1) < z - i;omega,kle rfl,(by refine ⟨rfl,rfl,rfl,rfl,rfl,rfl,62,rfl,?_,?_⟩ <;> repeat' (first|exact trivial|exact rfl|exact wkr rfl|exact wko rfl|exact Nat.zero_le _|exact ⟨_,rfl,WkV.int hw⟩|exact ⟨_,rfl,WkV.int hi1⟩|exact qad lP|exact qad lW|exact qad lJ|exact qa7 hx1|exact qa7 hx2|exact qa7 hx3|exact qa9 hx1|exact qa9 hx2|exact qa9 hx3|exact kle rfl|exact bdq|exact mxI rfl|exact mxS rfl|apply And.intro))⟩
   ·skip
    by_cases n2:gi P i = k2
    ·have hf:qb1 prog seatT 3 (iv (gi P i)) (mE 21 [(k1,f1,x1,c1),(k2,f2,x2,c2),(k3,f3,x3,c3)]) 0 = some (some (1,.lst [] c2 (.ch 41))) :=by rw [mE,qby,if_neg n1];rw [mE,qby,if_pos n2]
     have hk:qdx (mE 21 [(k1,f1,x1,c1),(k2,f2,x2,c2),(k3,f3,x3,c3)]) 1 = some (iv (gi P i)) :=by rw [n2];rfl
     have d1:decide ((c2 + (0 + 1)) * 8 ≤ 140737488355328) = true :=decide_eq_true (by omega)
     have d2:decide (c2 + (0 + 1) ≤ 9223372036854775807) = true :=decide_eq_true (by omega)
     have d3:decide (c2 = c2) = true :=decide_eq_true rfl
     conv => whnf
     try have z188:=qav hi2
     try have z189:=qaj hi2
     try have z190:=qaj hiJ
     repeat ((first|refine qaf (nthP gp) ?_|refine qaf (nthP g1) ?_|refine qaf (nthP gw) ?_|refine qaf (nthP g0) ?_|refine qaf (nthP gw2) ?_|refine qaf (qeg hf) ?_|refine qaf (qc6 hf hk) ?_|refine qai ‹_› ?_|refine qah ‹_› ?_|refine pkT ‹_› ?_|refine qaa ‹_› ?_|refine qao ‹_› ?_|refine qap ‹_› ?_|refine pkF ‹_› ?_|refine qac ‹_› ?_|refine qai (gff ‹_›) ?_|refine qah (gff ‹_›) ?_|refine pkT (gff ‹_›) ?_|refine qaa (gff ‹_›) ?_|refine qab hC (qau (gi P i) 0 (IntKind.i64.wrap ((W.length:Int) - 1))) ?_|refine qae hS (by kernel_rfl) ?_);conv => whnf)
     exact ⟨(i + 1,[(k1,f1,x1,c1),(gi P i,f2,x2 ++ [nv i],c2 + 1),(k3,f3,x3,c3)]),⟨hiO,by show _ = addR (gi P i) i (qcr P i);rw [← hL];rw [addR,if_neg (Ne.symm n1)];rw [addR,if_pos n2.symm];rw [n2]⟩,by show z - (i + 1) < z - i;omega,kle rfl,(by refine ⟨rfl,rfl,rfl,rfl,rfl,rfl,62,rfl,?_,?_⟩ <;> repeat' (first|exact trivial|exact rfl|exact wkr rfl|exact wko rfl|exact Nat.zero_le _|exact ⟨_,rfl,WkV.int hw⟩|exact ⟨_,rfl,WkV.int hi1⟩|exact qad lP|exact qad lW|exact qad lJ|exact qa7 hx1|exact qa7 hx2|exact qa7 hx3|exact qa9 hx1|exact qa9 hx2|exact qa9 hx3|exact kle rfl|exact bdq|exact mxI rfl|exact mxS rfl|apply And.intro))⟩
    ·skip
     by_cases n3:gi P i = k3
     ·have hf:qb1 prog seatT 3 (iv (gi P i)) (mE 21 [(k1,f1,x1,c1),(k2,f2,x2,c2),(k3,f3,x3,c3)]) 0 = some (some (2,.lst [] c3 (.ch 61))) :=by rw [mE,qby,if_neg n1];rw [mE,qby,if_neg n2];rw [mE,qby,if_pos n3]
      have hk:qdx (mE 21 [(k1,f1,x1,c1),(k2,f2,x2,c2),(k3,f3,x3,c3)]) 2 = some (iv (gi P i)) :=by rw [n3];rfl
      have d1:decide ((c3 + (0 + 1)) * 8 ≤ 140737488355328) = true :=decide_eq_true (by omega)
      have d2:decide (c3 + (0 + 1) ≤ 9223372036854775807) = true :=decide_eq_true (by omega)
      have d3:decide (c3 = c3) = true :=decide_eq_true rfl
      conv => whnf
      try have z191:=qav hi2
      try have z192:=qaj hi2
      try have z193:=qaj hiJ
      repeat ((first|refine qaf (nthP gp) ?_|refine qaf (nthP g1) ?_|refine qaf (nthP gw) ?_|refine qaf (nthP g0) ?_|refine qaf (nthP gw2) ?_|refine qaf (qeg hf) ?_|refine qaf (qc6 hf hk) ?_|refine qai ‹_› ?_|refine qah ‹_› ?_|refine pkT ‹_› ?_|refine qaa ‹_› ?_|refine qao ‹_› ?_|refine qap ‹_› ?_|refine pkF ‹_› ?_|refine qac ‹_› ?_|refine qai (gff ‹_›) ?_|refine qah (gff ‹_›) ?_|refine pkT (gff ‹_›) ?_|refine qaa (gff ‹_›) ?_|refine qab hC (qau (gi P i) 0 (IntKind.i64.wrap ((W.length:Int) - 1))) ?_|refine qae hS (by kernel_rfl) ?_);conv => whnf)
      exact ⟨(i + 1,[(k1,f1,x1,c1),(k2,f2,x2,c2),(gi P i,f3,x3 ++ [nv i],c3 + 1)]),⟨hiO,by show _ = addR (gi P i) i (qcr P i);rw [← hL];rw [addR,if_neg (Ne.symm n1)];rw [addR,if_neg (Ne.symm n2)];rw [addR,if_pos n3.symm];rw [n3]⟩,by show z - (i + 1) < z - i;omega,kle rfl,(by refine ⟨rfl,rfl,rfl,rfl,rfl,rfl,62,rfl,?_,?_⟩ <;> repeat' (first|exact trivial|exact rfl|exact wkr rfl|exact wko rfl|exact Nat.zero_le _|exact ⟨_,rfl,WkV.int hw⟩|exact ⟨_,rfl,WkV.int hi1⟩|exact qad lP|exact qad lW|exact qad lJ|exact qa7 hx1|exact qa7 hx2|exact qa7 hx3|exact qa9 hx1|exact qa9 hx2|exact qa9 hx3|exact kle rfl|exact bdq|exact mxI rfl|exact mxS rfl|apply And.intro))⟩
     ·skip
      exfalso
      have key:∀ r:Row,r ∈ [(k1,f1,x1,c1),(k2,f2,x2,c2),(k3,f3,x3,c3)] → 0 ≤ r.1 ∧ r.1 ≤ 2 :=fun r hr => by
       obtain ⟨j,z1,z2⟩ :=(hRo.ok r hr).ex
       have :=(h j (by omega)).1
       rw [← z2];omega
      have nd :=hRo.nd
      simp only [List.map_cons,List.map_nil,List.nodup_cons,List.mem_cons,List.not_mem_nil,or_false,not_or] at nd
      have y1 :=key (k1,f1,x1,c1) (by simp)
      have y2 :=key (k2,f2,x2,c2) (by simp)
      have y3 :=key (k3,f3,x3,c3) (by simp)
      simp only at y1 y2 y3
      omega
  ·exact absurd (qf9 hRo fun j hj => by have :=(h j (by omega)).1;omega) (by simp)
 ·have ei:i = z :=by omega
  subst ei
  have hi1:IntKind.i64.wrap (Int.ofNat i + 1) = Int.ofNat (i + 1) :=qa5 (m :=i + 1) (by omega)
  have hwr:IntKind.i64.wrap ((W.length:Int) - 1) = (W.length:Int) - 1 :=qd8 (by omega) (by omega)
  have hiJ:i < J.length :=by omega
  have gp :=qbb (l :=P) (i :=i) hi2
  have g1 :=qbq J i hiJ
  by_cases q0:0 ≤ gi P i ∧ gi P i ≤ (W.length:Int) - 1
  ·have hpw:(gi P i).toNat < W.length :=by omega
   have iw:inR (gi P i) W.length = true :=by
    rw [show gi P i = Int.ofNat (gi P i).toNat from (Int.toNat_of_nonneg q0.1).symm]
    exact qaj hpw
   have gw :=qbe W (gi P i).toNat hpw
   have e1:(!decide (0 ≤ gi P i ∧ gi P i ≤ IntKind.i64.wrap ((W.length:Int) - 1))) = false :=nt_t (decide_eq_true (by rw [hwr];exact q0))
   have e2:decide ((gL W (gi P i).toNat).1 < (gL J i).2.1) = true :=decide_eq_true (by
    apply Classical.byContradiction
    intro k
    exact hb ⟨q0,by omega⟩)
   rcases L with _ | ⟨⟨k1,f1,x1,c1⟩,_ | ⟨⟨k2,f2,x2,c2⟩,_ | ⟨⟨k3,f3,x3,c3⟩,_ | ⟨r4,L⟩⟩⟩⟩
   ·obtain rfl:K = 2 :=hK
    conv => whnf
    try have z194:=qav hi2
    try have z195:=qaj hi2
    try have z196:=qaj hiJ
    repeat ((first|refine qaf (nthP gp) ?_|refine qaf (nthP g1) ?_|refine qaf (nthP gw) ?_|refine qai ‹_› ?_|refine qah ‹_› ?_|refine pkT ‹_› ?_|refine qaa ‹_› ?_|refine qao ‹_› ?_|refine qap ‹_› ?_|refine pkF ‹_› ?_|refine qac ‹_› ?_|refine qai (gff ‹_›) ?_|refine qah (gff ‹_›) ?_|refine pkT (gff ‹_›) ?_|refine qaa (gff ‹_›) ?_|refine qab hC (qau (gi P i) 0 (IntKind.i64.wrap ((W.length:Int) - 1))) ?_|refine qae hS (by kernel_rfl) ?_);conv => whnf)
    rfl
   ·obtain rfl:K = 22 :=hK
    conv => whnf
    try have z197:=qav hi2
    try have z198:=qaj hi2
    try have z199:=qaj hiJ
    repeat ((first|refine qaf (nthP gp) ?_|refine qaf (nthP g1) ?_|refine qaf (nthP gw) ?_|refine qai ‹_› ?_|refine qah ‹_› ?_|refine pkT ‹_› ?_|refine qaa ‹_› ?_|refine qao ‹_› ?_|refine qap ‹_› ?_|refine pkF ‹_› ?_|refine qac ‹_› ?_|refine qai (gff ‹_›) ?_|refine qah (gff ‹_›) ?_|refine pkT (gff ‹_›) ?_|refine qaa (gff ‹_›) ?_|refine qab hC (qau (gi P i) 0 (IntKind.i64.wrap ((W.length:Int) - 1))) ?_|refine qae hS (by kernel_rfl) ?_);conv => whnf)
    rfl
   ·obtain rfl:K = 42 :=hK
    conv => whnf
    try have z200:=qav hi2
    try have z201:=qaj hi2
    try have z202:=qaj hiJ
    repeat ((first|refine qaf (nthP gp) ?_|refine qaf (nthP g1) ?_|refine qaf (nthP gw) ?_|refine qai ‹_› ?_|refine qah ‹_› ?_|refine pkT ‹_› ?_|refine qaa ‹_› ?_|refine qao ‹_› ?_|refine qap ‹_› ?_|refine pkF ‹_› ?_|refine qac ‹_› ?_|refine qai (gff ‹_›) ?_|refine qah (gff ‹_›) ?_|refine pkT (gff ‹_›) ?_|refine qaa (gff ‹_›) ?_|refine qab hC (qau (gi P i) 0 (IntKind.i64.wrap ((W.length:Int) - 1))) ?_|refine qae hS (by kernel_rfl) ?_);conv => whnf)
    rfl
   ·obtain rfl:K = 62 :=hK
    conv => whnf
    try have z203:=qav hi2
    try have z204:=qaj hi2
    try have z205:=qaj hiJ
    repeat ((first|refine qaf (nthP gp) ?_|refine qaf (nthP g1) ?_|refine qaf (nthP gw) ?_|refine qai ‹_› ?_|refine qah ‹_› ?_|refine pkT ‹_› ?_|refine qaa ‹_› ?_|refine qao ‹_› ?_|refine qap ‹_› ?_|refine pkF ‹_› ?_|refine qac ‹_› ?_|refine qai (gff ‹_›) ?_|refine qah (gff ‹_›) ?_|refine pkT (gff ‹_›) ?_|refine qaa (gff ‹_›) ?_|refine qab hC (qau (gi P i) 0 (IntKind.i64.wrap ((W.length:Int) - 1))) ?_|refine qae hS (by kernel_rfl) ?_);conv => whnf)
    rfl
   ·exact absurd (qf9 hRo fun j hj => by have :=(h j (by omega)).1;omega) (by simp)
  ·have e1:(!decide (0 ≤ gi P i ∧ gi P i ≤ IntKind.i64.wrap ((W.length:Int) - 1))) = true :=nt_f (decide_eq_false (by rw [hwr];exact q0))
   rcases L with _ | ⟨⟨k1,f1,x1,c1⟩,_ | ⟨⟨k2,f2,x2,c2⟩,_ | ⟨⟨k3,f3,x3,c3⟩,_ | ⟨r4,L⟩⟩⟩⟩
   ·obtain rfl:K = 2 :=hK
    conv => whnf
    try have z206:=qav hi2
    try have z207:=qaj hi2
    repeat ((first|refine qaf (nthP gp) ?_|refine qai ‹_› ?_|refine qah ‹_› ?_|refine pkT ‹_› ?_|refine qaa ‹_› ?_|refine qao ‹_› ?_|refine qap ‹_› ?_|refine pkF ‹_› ?_|refine qac ‹_› ?_|refine qao (gft ‹_›) ?_|refine qap (gft ‹_›) ?_|refine pkF (gft ‹_›) ?_|refine qac (gft ‹_›) ?_|refine qab hC (qau (gi P i) 0 (IntKind.i64.wrap ((W.length:Int) - 1))) ?_|refine qae hS (by kernel_rfl) ?_);conv => whnf)
    rfl
   ·obtain rfl:K = 22 :=hK
    conv => whnf
    try have z208:=qav hi2
    try have z209:=qaj hi2
    repeat ((first|refine qaf (nthP gp) ?_|refine qai ‹_› ?_|refine qah ‹_› ?_|refine pkT ‹_› ?_|refine qaa ‹_› ?_|refine qao ‹_› ?_|refine qap ‹_› ?_|refine pkF ‹_› ?_|refine qac ‹_› ?_|refine qao (gft ‹_›) ?_|refine qap (gft ‹_›) ?_|refine pkF (gft ‹_›) ?_|refine qac (gft ‹_›) ?_|refine qab hC (qau (gi P i) 0 (IntKind.i64.wrap ((W.length:Int) - 1))) ?_|refine qae hS (by kernel_rfl) ?_);conv => whnf)
    rfl
   ·obtain rfl:K = 42 :=hK
    conv => whnf
    try have z210:=qav hi2
    try have z211:=qaj hi2
    repeat ((first|refine qaf (nthP gp) ?_|refine qai ‹_› ?_|refine qah ‹_› ?_|refine pkT ‹_› ?_|refine qaa ‹_› ?_|refine qao ‹_› ?_|refine qap ‹_› ?_|refine pkF ‹_› ?_|refine qac ‹_› ?_|refine qao (gft ‹_›) ?_|refine qap (gft ‹_›) ?_|refine pkF (gft ‹_›) ?_|refine qac (gft ‹_›) ?_|refine qab hC (qau (gi P i) 0 (IntKind.i64.wrap ((W.length:Int) - 1))) ?_|refine qae hS (by kernel_rfl) ?_);conv => whnf)
    rfl
   ·obtain rfl:K = 62 :=hK
    conv => whnf
    try have z212:=qav hi2
    try have z213:=qaj hi2
    repeat ((first|refine qaf (nthP gp) ?_|refine qai ‹_› ?_|refine qah ‹_› ?_|refine pkT ‹_› ?_|refine qaa ‹_› ?_|refine qao ‹_› ?_|refine qap ‹_› ?_|refine pkF ‹_› ?_|refine qac ‹_› ?_|refine qao (gft ‹_›) ?_|refine qap (gft ‹_›) ?_|refine pkF (gft ‹_›) ?_|refine qac (gft ‹_›) ?_|refine qab hC (qau (gi P i) 0 (IntKind.i64.wrap ((W.length:Int) - 1))) ?_|refine qae hS (by kernel_rfl) ?_);conv => whnf)
    rfl
   ·exact absurd (qf9 hRo fun j hj => by have :=(h j (by omega)).1;omega) (by simp)
end
end Go.Abs.Seat
