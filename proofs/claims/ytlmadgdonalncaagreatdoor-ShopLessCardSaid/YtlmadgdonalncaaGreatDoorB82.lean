/-
  When jobs are done: the program.
-/
import Derived.Test.YtlmadgdonalncaaGreatDoorU13
namespace Go.Abs.Seat
noncomputable section
open Go Go.Abs Go.Proofs.Tryz
set_option maxRecDepth 100000
set_option maxHeartbeats 40000000
attribute [local irreducible] IntKind.wrap pEq
def muD:Option Tmp → TypeId → Bool :=fun d t => match d with
 |some 64 => t == 24 || t == 1000000 + 24
 | _ => false
def mE:Nat → List Row → List (AV × AV)
 | _,[] => []
 |c,r :: L => (iv r.1,.lst [] r.2.2.2 (.ch c)) :: mE (c + 20) L
def mX:List Row → List AObj
 | [] => []
 |r :: L => .hole :: .hole :: .hole :: .hole :: .hole :: .hole :: .hole :: .hole :: .hole :: .hole :: .hole :: .hole :: .hole :: .hole :: .hole :: .hole :: .hole :: .hole :: .hole :: .mrow r.2.2.1 r.2.2.2 1 3 :: mX L
theorem qd2 (x k:Int) (v:AV) (es:List (AV × AV)) (i:Nat):qb6 prog seatT 3 (iv x) ((iv k,v) :: es) i = if x = k then some (some (i,v)) else qb6 prog seatT 3 (iv x) es (i + 1) :=by
 have h:aeqC prog seatT 8 3 (iv x) (iv k) = some (x == k) :=rfl
 rw [qb6,h]
 by_cases e:x = k
 ·rw [if_pos e,beq_iff_eq.2 e]
 ·rw [if_neg e,beq_eq_false_iff_ne.2 e]
theorem qiz {x:AV} {es:List (AV × AV)} {j:Nat} {v z:AV} (h:qb6 prog seatT 3 x es 0 = some (some (j,v))):(match qb6 prog seatT 3 x es 0 with
  |some (some (_,v)) => Plan.ret (qik false v true)
  |some none => Plan.ret (qik false z false)
  |none => Plan.fail) = Plan.ret v :=by rw [h];rfl
theorem qx4 {x:AV} {es:List (AV × AV)} {z:AV} (h:qb6 prog seatT 3 x es 0 = some none):(match qb6 prog seatT 3 x es 0 with
  |some (some (_,v)) => Plan.ret (qik false v true)
  |some none => Plan.ret (qik false z false)
  |none => Plan.fail) = Plan.ret z :=by rw [h];rfl
theorem qgd {x:Int} {es:List (AV × AV)} {o j:Nat} {v u:AV} (h:qb6 prog seatT 3 (iv x) es 0 = some (some (j,v))) (hk:qeu es j = some (iv x)):(match qb6 prog seatT 3 (iv x) es 0 with
  |some (some (i,_)) => match qeu es i with
   |some k' => Plan.chk (qg3 8 k' (iv x)) (.seto o (.mapo (setE es i (iv x,u))) (Nat.max (bd (iv x)) (bd u)) .skip)
   |none => .fail
  |some none => .seto o (.mapo (qfi es (iv x,u))) (Nat.max (bd (iv x)) (bd u)) .skip
  |none => .fail) = .chk true (.seto o (.mapo (setE es j (iv x,u))) (Nat.max (bd (iv x)) (bd u)) .skip) :=by
 have e:qg3 8 (iv x) (iv x) = true :=by simp [qg3]
 rw [h];simp only [hk,e]
theorem qqw {x:AV} {es:List (AV × AV)} {o:Nat} {u:AV} (h:qb6 prog seatT 3 x es 0 = some none):(match qb6 prog seatT 3 x es 0 with
  |some (some (i,_)) => match qeu es i with
   |some k' => Plan.chk (qg3 8 k' x) (.seto o (.mapo (setE es i (x,u))) (Nat.max (bd x) (bd u)) .skip)
   |none => .fail
  |some none => .seto o (.mapo (qfi es (x,u))) (Nat.max (bd x) (bd u)) .skip
  |none => .fail) = .seto o (.mapo (qfi es (x,u))) (Nat.max (bd x) (bd u)) .skip :=by rw [h]
def mS:Nat → List Row → List (AV × AV)
 | _,[] => []
 |c,r :: L => (iv r.1,.slc c 0 r.2.2.2 0) :: mS (c + 1) L
def mC:List Row → List AObj
 | [] => []
 |r :: L => .cells (tlA r.2.2.1) r.2.2.2 3 :: mC L
theorem qer {x:List AV} {n:Nat} (h:∃ l,x = nvs l):bdl x ≤ n :=by
 obtain ⟨l,rfl⟩ :=h
 exact qv5 l n
theorem qli {x:List AV} {n i:Nat} (h:∃ l,x = nvs l):bdl (x ++ [nv i]) ≤ n :=by
 obtain ⟨l,rfl⟩ :=h
 have e:nvs l ++ [nv i] = nvs (l ++ [i]) :=by simp [nvs]
 rw [e]
 exact qv5 _ n
theorem qf8 {W J:List LkI} {P:List Int} (hW:areW W) (hJ:areJ J) (h:isPl W J P):Pure prog 73 [lkA W,lkA J,nl P] (.tup [nl (dnL W J P),iv (wgJ W J P P.length)]) :=by
 have lD :=qal (dnL W J P)
 have lW :=qau W
 have lJ :=qau J
 have lP :=qal P
 have hm6:P.length ≤ 6 :=by rw [h.1];exact hJ.1.2
 have hw3 :=hW.1.2
 have hl :=h.1
 refine qp0 (hEM muD) rfl (by repeat' first|exact trivial|assumption|exact qag _|exact fun _ h => nomatch h|apply And.intro) (by repeat' first|exact trivial|assumption|exact qag _|exact fun _ h => nomatch h|apply And.intro) fun S q pc hS hq hC hE => ?_
 conv => whnf
 refine qdv (E :=EM muD q pc) hS (qaz hE hS ?_)
 conv => whnf
 refine qdv (E :=EM muD q pc) hS (qaz hE hS ?_)
 conv => whnf
 refine qac ((show (Int.ofNat P.length != Int.ofNat J.length) = false by rw [h.1];exact bne_self_eq_false _)) ?_
 conv => whnf
 refine qdv (E :=EM muD q pc) hS (qaz hE hS ?_)
 conv => whnf
 refine qdv (E :=EM muD q pc) hS (qaz hE hS ?_)
 conv => whnf
 refine quc (E :=EM muD q pc) hS (A :=List Row) [0,4,6,7,8] (fun _ => [(9,iv (wgJ W J P P.length))]) (fun L => [(1,.mapo (mS 2 L))]) (fun L => mC L) (fun L => L = qei P P.length) (Nat.zero_le _) (qaz hE hS ?_) ?_
 ·conv => whnf
  refine qa4 hE hS (A :=Nat × List Row) [0,2,4,6,7,8,28,29] (fun (i,_) => [(9,iv (wgJ W J P i)),(30,nv i)]) (fun (_,L) => [(1,.mapo (mE 21 L))]) (fun (_,L) => mX L) (fun (i,L) => i ≤ P.length ∧ L = qei P i) (fun (i,_) => P.length - i) (0,[]) (kle rfl) rfl (zhg 2) ⟨Nat.zero_le _,rfl⟩ ?_
  rintro ⟨i,L⟩ ⟨hi,hL⟩ K hK
  have hi:i ≤ P.length :=hi
  have hL:L = qei P i :=hL
  have hRo:RowsOk P i L :=by rw [hL];exact qjr P i
  by_cases hi2:i < P.length
  ·have hj :=h.2 i hi2
   have hi1:IntKind.i64.wrap (Int.ofNat i + 1) = Int.ofNat (i + 1) :=qa7 (m :=i + 1) (by omega)
   have hwr:IntKind.i64.wrap ((W.length:Int) - 1) = (W.length:Int) - 1 :=qdp (by omega) (by omega)
   have hiJ:i < J.length :=by omega
   have q0 :=hj.1
   have q1 :=hj.2
   have hpw:(gi P i).toNat < W.length :=by omega
   have iw:inR (gi P i) W.length = true :=by
    rw [show gi P i = Int.ofNat (gi P i).toNat from (Int.toNat_of_nonneg q0.1).symm]
    exact qav hpw
   have gp :=qbp (l :=P) (i :=i) hi2
   have g1 :=qb9 J i hiJ
   have g0 :=qbf J i hiJ
   have gw :=qbf W (gi P i).toNat hpw
   have gw2 :=qck W (gi P i).toNat hpw
   have b1 :=qqv hW hJ h i hi
   have b2 :=qqv hW hJ h (i + 1) hi2
   have hw:IntKind.i64.wrap (wgJ W J P i + IntKind.i64.wrap ((gL J i).1 * (gL W (gi P i).toNat).2.2)) = wgJ W J P (i + 1) :=by
    rw [wgJ] at b2 ⊢
    rw [show IntKind.i64.wrap ((gL J i).1 * (gL W (gi P i).toNat).2.2) = (gL J i).1 * (gL W (gi P i).toNat).2.2 from qdp (by omega) (by omega)]
    exact qdp (by omega) (by omega)
   have e1:(!decide (0 ≤ gi P i ∧ gi P i ≤ IntKind.i64.wrap ((W.length:Int) - 1))) = false :=nt_t (decide_eq_true (by rw [hwr];exact q0))
   have e2:decide ((gL W (gi P i).toNat).1 < (gL J i).2.1) = false :=decide_eq_false (by omega)
   have hiO:i + 1 ≤ P.length :=hi2
   rcases L with _ | ⟨⟨k1,f1,x1,c1⟩,_ | ⟨⟨k2,f2,x2,c2⟩,_ | ⟨⟨k3,f3,x3,c3⟩,_ | ⟨r4,L⟩⟩⟩⟩
   ·obtain rfl:K = 2 :=hK
    have hx1:∃ l,([]:List AV) = nvs l :=⟨[],rfl⟩
    have hx2:∃ l,([]:List AV) = nvs l :=⟨[],rfl⟩
    have hx3:∃ l,([]:List AV) = nvs l :=⟨[],rfl⟩
    have hf:qb6 prog seatT 3 (iv (gi P i)) (mE 21 []) 0 = some none :=by rfl
    conv => whnf
    try have z33:=qa3 hi2
    try have z34:=qav hi2
    try have z35:=qav hiJ
    repeat ((first|refine qaf (nthP gp) ?_|refine qaf (nthP g1) ?_|refine qaf (nthP gw) ?_|refine qaf (nthP g0) ?_|refine qaf (nthP gw2) ?_|refine qaf (qx4 hf) ?_|refine qaf (qqw hf) ?_|refine qai ‹_› ?_|refine qah ‹_› ?_|refine pkT ‹_› ?_|refine qaa ‹_› ?_|refine qao ‹_› ?_|refine qap ‹_› ?_|refine pkF ‹_› ?_|refine qac ‹_› ?_|refine qai (gff ‹_›) ?_|refine qah (gff ‹_›) ?_|refine pkT (gff ‹_›) ?_|refine qaa (gff ‹_›) ?_|refine qab hC (qax (gi P i) 0 (IntKind.i64.wrap ((W.length:Int) - 1))) ?_|refine qad hS (by kernel_rfl) ?_);conv => whnf)
    exact ⟨(i + 1,[(gi P i,Int.ofNat i,[nv i],1)]),⟨hiO,by show _ = addR (gi P i) i (qei P i);rw [← hL];rw [addR]⟩,by show P.length - (i + 1) < P.length - i;omega,kle rfl,(zhg 22)⟩
   ·obtain rfl:K = 22 :=hK
    have r1 :=hRo.ok (k1,f1,x1,c1) (by simp)
    have hx1:∃ l,x1 = nvs l :=⟨_,r1.xs⟩
    have hc1:1 ≤ c1 ∧ c1 ≤ i :=r1.pos
    have hx2:∃ l,([]:List AV) = nvs l :=⟨[],rfl⟩
    have hx3:∃ l,([]:List AV) = nvs l :=⟨[],rfl⟩
    by_cases n1:gi P i = k1
    ·have hf:qb6 prog seatT 3 (iv (gi P i)) (mE 21 [(k1,f1,x1,c1)]) 0 = some (some (0,.lst [] c1 (.ch 21))) :=by rw [mE,qd2,if_pos n1]
     have hk:qeu (mE 21 [(k1,f1,x1,c1)]) 0 = some (iv (gi P i)) :=by rw [n1];rfl
     have d1:decide ((c1 + (0 + 1)) * 8 ≤ 140737488355328) = true :=decide_eq_true (by omega)
     have d2:decide (c1 + (0 + 1) ≤ 9223372036854775807) = true :=decide_eq_true (by omega)
     have d3:decide (c1 = c1) = true :=decide_eq_true rfl
     conv => whnf
     try have z36:=qa3 hi2
     try have z37:=qav hi2
     try have z38:=qav hiJ
     repeat ((first|refine qaf (nthP gp) ?_|refine qaf (nthP g1) ?_|refine qaf (nthP gw) ?_|refine qaf (nthP g0) ?_|refine qaf (nthP gw2) ?_|refine qaf (qiz hf) ?_|refine qaf (qgd hf hk) ?_|refine qai ‹_› ?_|refine qah ‹_› ?_|refine pkT ‹_› ?_|refine qaa ‹_› ?_|refine qao ‹_› ?_|refine qap ‹_› ?_|refine pkF ‹_› ?_|refine qac ‹_› ?_|refine qai (gff ‹_›) ?_|refine qah (gff ‹_›) ?_|refine pkT (gff ‹_›) ?_|refine qaa (gff ‹_›) ?_|refine qab hC (qax (gi P i) 0 (IntKind.i64.wrap ((W.length:Int) - 1))) ?_|refine qad hS (by kernel_rfl) ?_);conv => whnf)
     exact ⟨(i + 1,[(gi P i,f1,x1 ++ [nv i],c1 + 1)]),⟨hiO,by show _ = addR (gi P i) i (qei P i);rw [← hL];rw [addR,if_pos n1.symm];rw [n1]⟩,by show P.length - (i + 1) < P.length - i;omega,kle rfl,(zhg 22)⟩
    ·skip
     have hf:qb6 prog seatT 3 (iv (gi P i)) (mE 21 [(k1,f1,x1,c1)]) 0 = some none :=by rw [mE,qd2,if_neg n1];rfl
     conv => whnf
     try have z39:=qa3 hi2
     try have z40:=qav hi2
     try have z41:=qav hiJ
     repeat ((first|refine qaf (nthP gp) ?_|refine qaf (nthP g1) ?_|refine qaf (nthP gw) ?_|refine qaf (nthP g0) ?_|refine qaf (nthP gw2) ?_|refine qaf (qx4 hf) ?_|refine qaf (qqw hf) ?_|refine qai ‹_› ?_|refine qah ‹_› ?_|refine pkT ‹_› ?_|refine qaa ‹_› ?_|refine qao ‹_› ?_|refine qap ‹_› ?_|refine pkF ‹_› ?_|refine qac ‹_› ?_|refine qai (gff ‹_›) ?_|refine qah (gff ‹_›) ?_|refine pkT (gff ‹_›) ?_|refine qaa (gff ‹_›) ?_|refine qab hC (qax (gi P i) 0 (IntKind.i64.wrap ((W.length:Int) - 1))) ?_|refine qad hS (by kernel_rfl) ?_);conv => whnf)
     exact ⟨(i + 1,[(k1,f1,x1,c1),(gi P i,Int.ofNat i,[nv i],1)]),⟨hiO,by show _ = addR (gi P i) i (qei P i);rw [← hL];rw [addR,if_neg (Ne.symm n1)];rw [addR]⟩,by show P.length - (i + 1) < P.length - i;omega,kle rfl,(zhg 42)⟩
   ·obtain rfl:K = 42 :=hK
    have r1 :=hRo.ok (k1,f1,x1,c1) (by simp)
    have hx1:∃ l,x1 = nvs l :=⟨_,r1.xs⟩
    have hc1:1 ≤ c1 ∧ c1 ≤ i :=r1.pos
    have r2 :=hRo.ok (k2,f2,x2,c2) (by simp)
    have hx2:∃ l,x2 = nvs l :=⟨_,r2.xs⟩
    have hc2:1 ≤ c2 ∧ c2 ≤ i :=r2.pos
    have hx3:∃ l,([]:List AV) = nvs l :=⟨[],rfl⟩
    by_cases n1:gi P i = k1
    ·have hf:qb6 prog seatT 3 (iv (gi P i)) (mE 21 [(k1,f1,x1,c1),(k2,f2,x2,c2)]) 0 = some (some (0,.lst [] c1 (.ch 21))) :=by rw [mE,qd2,if_pos n1]
     have hk:qeu (mE 21 [(k1,f1,x1,c1),(k2,f2,x2,c2)]) 0 = some (iv (gi P i)) :=by rw [n1];rfl
     have d1:decide ((c1 + (0 + 1)) * 8 ≤ 140737488355328) = true :=decide_eq_true (by omega)
     have d2:decide (c1 + (0 + 1) ≤ 9223372036854775807) = true :=decide_eq_true (by omega)
     have d3:decide (c1 = c1) = true :=decide_eq_true rfl
     conv => whnf
     try have z42:=qa3 hi2
     try have z43:=qav hi2
     try have z44:=qav hiJ
     repeat ((first|refine qaf (nthP gp) ?_|refine qaf (nthP g1) ?_|refine qaf (nthP gw) ?_|refine qaf (nthP g0) ?_|refine qaf (nthP gw2) ?_|refine qaf (qiz hf) ?_|refine qaf (qgd hf hk) ?_|refine qai ‹_› ?_|refine qah ‹_› ?_|refine pkT ‹_› ?_|refine qaa ‹_› ?_|refine qao ‹_› ?_|refine qap ‹_› ?_|refine pkF ‹_› ?_|refine qac ‹_› ?_|refine qai (gff ‹_›) ?_|refine qah (gff ‹_›) ?_|refine pkT (gff ‹_›) ?_|refine qaa (gff ‹_›) ?_|refine qab hC (qax (gi P i) 0 (IntKind.i64.wrap ((W.length:Int) - 1))) ?_|refine qad hS (by kernel_rfl) ?_);conv => whnf)
     exact ⟨(i + 1,[(gi P i,f1,x1 ++ [nv i],c1 + 1),(k2,f2,x2,c2)]),⟨hiO,by show _ = addR (gi P i) i (qei P i);rw [← hL];rw [addR,if_pos n1.symm];rw [n1]⟩,by show P.length - (i + 1) < P.length - i;omega,kle rfl,(zhg 42)⟩
    ·skip
     by_cases n2:gi P i = k2
     ·have hf:qb6 prog seatT 3 (iv (gi P i)) (mE 21 [(k1,f1,x1,c1),(k2,f2,x2,c2)]) 0 = some (some (1,.lst [] c2 (.ch 41))) :=by rw [mE,qd2,if_neg n1];rw [mE,qd2,if_pos n2]
      have hk:qeu (mE 21 [(k1,f1,x1,c1),(k2,f2,x2,c2)]) 1 = some (iv (gi P i)) :=by rw [n2];rfl
      have d1:decide ((c2 + (0 + 1)) * 8 ≤ 140737488355328) = true :=decide_eq_true (by omega)
      have d2:decide (c2 + (0 + 1) ≤ 9223372036854775807) = true :=decide_eq_true (by omega)
      have d3:decide (c2 = c2) = true :=decide_eq_true rfl
      conv => whnf
      try have z45:=qa3 hi2
      try have z46:=qav hi2
      try have z47:=qav hiJ
      repeat ((first|refine qaf (nthP gp) ?_|refine qaf (nthP g1) ?_|refine qaf (nthP gw) ?_|refine qaf (nthP g0) ?_|refine qaf (nthP gw2) ?_|refine qaf (qiz hf) ?_|refine qaf (qgd hf hk) ?_|refine qai ‹_› ?_|refine qah ‹_› ?_|refine pkT ‹_› ?_|refine qaa ‹_› ?_|refine qao ‹_› ?_|refine qap ‹_› ?_|refine pkF ‹_› ?_|refine qac ‹_› ?_|refine qai (gff ‹_›) ?_|refine qah (gff ‹_›) ?_|refine pkT (gff ‹_›) ?_|refine qaa (gff ‹_›) ?_|refine qab hC (qax (gi P i) 0 (IntKind.i64.wrap ((W.length:Int) - 1))) ?_|refine qad hS (by kernel_rfl) ?_);conv => whnf)
      exact ⟨(i + 1,[(k1,f1,x1,c1),(gi P i,f2,x2 ++ [nv i],c2 + 1)]),⟨hiO,by show _ = addR (gi P i) i (qei P i);rw [← hL];rw [addR,if_neg (Ne.symm n1)];rw [addR,if_pos n2.symm];rw [n2]⟩,by show P.length - (i + 1) < P.length - i;omega,kle rfl,(zhg 42)⟩
     ·skip
      have hf:qb6 prog seatT 3 (iv (gi P i)) (mE 21 [(k1,f1,x1,c1),(k2,f2,x2,c2)]) 0 = some none :=by rw [mE,qd2,if_neg n1];rw [mE,qd2,if_neg n2];rfl
      conv => whnf
      try have z48:=qa3 hi2
      try have z49:=qav hi2
      try have z50:=qav hiJ
      repeat ((first|refine qaf (nthP gp) ?_|refine qaf (nthP g1) ?_|refine qaf (nthP gw) ?_|refine qaf (nthP g0) ?_|refine qaf (nthP gw2) ?_|refine qaf (qx4 hf) ?_|refine qaf (qqw hf) ?_|refine qai ‹_› ?_|refine qah ‹_› ?_|refine pkT ‹_› ?_|refine qaa ‹_› ?_|refine qao ‹_› ?_|refine qap ‹_› ?_|refine pkF ‹_› ?_|refine qac ‹_› ?_|refine qai (gff ‹_›) ?_|refine qah (gff ‹_›) ?_|refine pkT (gff ‹_›) ?_|refine qaa (gff ‹_›) ?_|refine qab hC (qax (gi P i) 0 (IntKind.i64.wrap ((W.length:Int) - 1))) ?_|refine qad hS (by kernel_rfl) ?_);conv => whnf)
      exact ⟨(i + 1,[(k1,f1,x1,c1),(k2,f2,x2,c2),(gi P i,Int.ofNat i,[nv i],1)]),⟨hiO,by show _ = addR (gi P i) i (qei P i);rw [← hL];rw [addR,if_neg (Ne.symm n1)];rw [addR,if_neg (Ne.symm n2)];rw [addR]⟩,by show P.length - (i + 1) < P.length - i;omega,kle rfl,(zhg 62)⟩
   ·obtain rfl:K = 62 :=hK
    have r1 :=hRo.ok (k1,f1,x1,c1) (by simp)
    have hx1:∃ l,x1 = nvs l :=⟨_,r1.xs⟩
    have hc1:1 ≤ c1 ∧ c1 ≤ i :=r1.pos
    have r2 :=hRo.ok (k2,f2,x2,c2) (by simp)
    have hx2:∃ l,x2 = nvs l :=⟨_,r2.xs⟩
    have hc2:1 ≤ c2 ∧ c2 ≤ i :=r2.pos
    have r3 :=hRo.ok (k3,f3,x3,c3) (by simp)
    have hx3:∃ l,x3 = nvs l :=⟨_,r3.xs⟩
    have hc3:1 ≤ c3 ∧ c3 ≤ i :=r3.pos
    by_cases n1:gi P i = k1
    ·have hf:qb6 prog seatT 3 (iv (gi P i)) (mE 21 [(k1,f1,x1,c1),(k2,f2,x2,c2),(k3,f3,x3,c3)]) 0 = some (some (0,.lst [] c1 (.ch 21))) :=by rw [mE,qd2,if_pos n1]
     have hk:qeu (mE 21 [(k1,f1,x1,c1),(k2,f2,x2,c2),(k3,f3,x3,c3)]) 0 = some (iv (gi P i)) :=by rw [n1];rfl
     have d1:decide ((c1 + (0 + 1)) * 8 ≤ 140737488355328) = true :=decide_eq_true (by omega)
     have d2:decide (c1 + (0 + 1) ≤ 9223372036854775807) = true :=decide_eq_true (by omega)
     have d3:decide (c1 = c1) = true :=decide_eq_true rfl
     conv => whnf
     try have z51:=qa3 hi2
     try have z52:=qav hi2
     try have z53:=qav hiJ
     repeat ((first|refine qaf (nthP gp) ?_|refine qaf (nthP g1) ?_|refine qaf (nthP gw) ?_|refine qaf (nthP g0) ?_|refine qaf (nthP gw2) ?_|refine qaf (qiz hf) ?_|refine qaf (qgd hf hk) ?_|refine qai ‹_› ?_|refine qah ‹_› ?_|refine pkT ‹_› ?_|refine qaa ‹_› ?_|refine qao ‹_› ?_|refine qap ‹_› ?_|refine pkF ‹_› ?_|refine qac ‹_› ?_|refine qai (gff ‹_›) ?_|refine qah (gff ‹_›) ?_|refine pkT (gff ‹_›) ?_|refine qaa (gff ‹_›) ?_|refine qab hC (qax (gi P i) 0 (IntKind.i64.wrap ((W.length:Int) - 1))) ?_|refine qad hS (by kernel_rfl) ?_);conv => whnf)
     exact ⟨(i + 1,[(gi P i,f1,x1 ++ [nv i],c1 + 1),(k2,f2,x2,c2),(k3,f3,x3,c3)]),⟨hiO,by show _ = addR (gi P i) i (qei P i);rw [← hL];rw [addR,if_pos n1.symm];rw [n1]⟩,by show P.length - (i + 1) < P.length - i;omega,kle rfl,(zhg 62)⟩
    ·skip
     by_cases n2:gi P i = k2
     ·have hf:qb6 prog seatT 3 (iv (gi P i)) (mE 21 [(k1,f1,x1,c1),(k2,f2,x2,c2),(k3,f3,x3,c3)]) 0 = some (some (1,.lst [] c2 (.ch 41))) :=by rw [mE,qd2,if_neg n1];rw [mE,qd2,if_pos n2]
      have hk:qeu (mE 21 [(k1,f1,x1,c1),(k2,f2,x2,c2),(k3,f3,x3,c3)]) 1 = some (iv (gi P i)) :=by rw [n2];rfl
      have d1:decide ((c2 + (0 + 1)) * 8 ≤ 140737488355328) = true :=decide_eq_true (by omega)
      have d2:decide (c2 + (0 + 1) ≤ 9223372036854775807) = true :=decide_eq_true (by omega)
      have d3:decide (c2 = c2) = true :=decide_eq_true rfl
      conv => whnf
      try have z54:=qa3 hi2
      try have z55:=qav hi2
      try have z56:=qav hiJ
      repeat ((first|refine qaf (nthP gp) ?_|refine qaf (nthP g1) ?_|refine qaf (nthP gw) ?_|refine qaf (nthP g0) ?_|refine qaf (nthP gw2) ?_|refine qaf (qiz hf) ?_|refine qaf (qgd hf hk) ?_|refine qai ‹_› ?_|refine qah ‹_› ?_|refine pkT ‹_› ?_|refine qaa ‹_› ?_|refine qao ‹_› ?_|refine qap ‹_› ?_|refine pkF ‹_› ?_|refine qac ‹_› ?_|refine qai (gff ‹_›) ?_|refine qah (gff ‹_›) ?_|refine pkT (gff ‹_›) ?_|refine qaa (gff ‹_›) ?_|refine qab hC (qax (gi P i) 0 (IntKind.i64.wrap ((W.length:Int) - 1))) ?_|refine qad hS (by kernel_rfl) ?_);conv => whnf)
      exact ⟨(i + 1,[(k1,f1,x1,c1),(gi P i,f2,x2 ++ [nv i],c2 + 1),(k3,f3,x3,c3)]),⟨hiO,by show _ = addR (gi P i) i (qei P i);rw [← hL];rw [addR,if_neg (Ne.symm n1)];rw [addR,if_pos n2.symm];rw [n2]⟩,by show P.length - (i + 1) < P.length - i;omega,kle rfl,(zhg 62)⟩
     ·skip
      by_cases n3:gi P i = k3
      ·have hf:qb6 prog seatT 3 (iv (gi P i)) (mE 21 [(k1,f1,x1,c1),(k2,f2,x2,c2),(k3,f3,x3,c3)]) 0 = some (some (2,.lst [] c3 (.ch 61))) :=by rw [mE,qd2,if_neg n1];rw [mE,qd2,if_neg n2];rw [mE,qd2,if_pos n3]
       have hk:qeu (mE 21 [(k1,f1,x1,c1),(k2,f2,x2,c2),(k3,f3,x3,c3)]) 2 = some (iv (gi P i)) :=by rw [n3];rfl
       have d1:decide ((c3 + (0 + 1)) * 8 ≤ 140737488355328) = true :=decide_eq_true (by omega)
       have d2:decide (c3 + (0 + 1) ≤ 9223372036854775807) = true :=decide_eq_true (by omega)
       have d3:decide (c3 = c3) = true :=decide_eq_true rfl
       conv => whnf
       try have z57:=qa3 hi2
       try have z58:=qav hi2
       try have z59:=qav hiJ
       repeat ((first|refine qaf (nthP gp) ?_|refine qaf (nthP g1) ?_|refine qaf (nthP gw) ?_|refine qaf (nthP g0) ?_|refine qaf (nthP gw2) ?_|refine qaf (qiz hf) ?_|refine qaf (qgd hf hk) ?_|refine qai ‹_› ?_|refine qah ‹_› ?_|refine pkT ‹_› ?_|refine qaa ‹_› ?_|refine qao ‹_› ?_|refine qap ‹_› ?_|refine pkF ‹_› ?_|refine qac ‹_› ?_|refine qai (gff ‹_›) ?_|refine qah (gff ‹_›) ?_|refine pkT (gff ‹_›) ?_|refine qaa (gff ‹_›) ?_|refine qab hC (qax (gi P i) 0 (IntKind.i64.wrap ((W.length:Int) - 1))) ?_|refine qad hS (by kernel_rfl) ?_);conv => whnf)
       exact ⟨(i + 1,[(k1,f1,x1,c1),(k2,f2,x2,c2),(gi P i,f3,x3 ++ [nv i],c3 + 1)]),⟨hiO,by show _ = addR (gi P i) i (qei P i);rw [← hL];rw [addR,if_neg (Ne.symm n1)];rw [addR,if_neg (Ne.symm n2)];rw [addR,if_pos n3.symm];rw [n3]⟩,by show P.length - (i + 1) < P.length - i;omega,kle rfl,(zhg 62)⟩
      ·skip
       exfalso
       have key:∀ r:Row,r ∈ [(k1,f1,x1,c1),(k2,f2,x2,c2),(k3,f3,x3,c3)] → 0 ≤ r.1 ∧ r.1 ≤ 2 :=fun r hr => by
        obtain ⟨j,z1,z2⟩ :=(hRo.ok r hr).ex
        have :=(h.2 j (by omega)).1
        rw [← z2];omega
       have nd :=hRo.nd
       simp only [List.map_cons,List.map_nil,List.nodup_cons,List.mem_cons,List.not_mem_nil,or_false,not_or] at nd
       have y1 :=key (k1,f1,x1,c1) (by simp)
       have y2 :=key (k2,f2,x2,c2) (by simp)
       have y3 :=key (k3,f3,x3,c3) (by simp)
       simp only at y1 y2 y3
       omega
   ·exact absurd (qmi hRo fun j hj => by have :=(h.2 j (by omega)).1;omega) (by simp)
  ·have ei:i = P.length :=by omega
   subst ei
   rcases L with _ | ⟨⟨k1,f1,x1,c1⟩,_ | ⟨⟨k2,f2,x2,c2⟩,_ | ⟨⟨k3,f3,x3,c3⟩,_ | ⟨r4,L⟩⟩⟩⟩
   ·obtain rfl:K = 2 :=hK
    conv => whnf
    refine qac (qbn hi2) ?_
    conv => whnf
    refine .inl ?_
    conv => whnf
    refine ⟨[],[],hL,⟨rfl,rfl,rfl,rfl,rfl,rfl,?_,?_,by decide,?_,?_,?_⟩⟩ <;> repeat' (first|exact trivial|exact rfl|exact ⟨_,rfl,.wk (WkV.refl _) (Nat.zero_le _)⟩|exact ⟨_,rfl,.wk (WkV.refl _) (kle rfl)⟩|exact ⟨_,rfl,.wk (WkV.refl _) (qae lW)⟩|exact ⟨_,rfl,.wk (WkV.refl _) (qae lJ)⟩|exact ⟨WkV.refl _,Nat.zero_le _⟩|exact OTh.same _ ⟨qae lJ,trivial,trivial⟩|apply OTh.mapo|apply And.intro)
   ·obtain rfl:K = 22 :=hK
    have r1 :=hRo.ok (k1,f1,x1,c1) (by simp)
    have hx1:∃ l,x1 = nvs l :=⟨_,r1.xs⟩
    have hc1:0 < c1 :=r1.pos.1
    conv => whnf
    refine qac (qbn hi2) ?_
    conv => whnf
    refine .inl ?_
    conv => whnf
    refine ⟨[(k1,f1,x1,c1)],[21],hL,⟨rfl,rfl,rfl,rfl,rfl,rfl,?_,?_,by decide,?_,?_,?_⟩⟩ <;> repeat' (first|exact trivial|exact rfl|exact ⟨_,rfl,.wk (WkV.refl _) (Nat.zero_le _)⟩|exact ⟨_,rfl,.wk (WkV.refl _) (kle rfl)⟩|exact ⟨_,rfl,.wk (WkV.refl _) (qae lW)⟩|exact ⟨_,rfl,.wk (WkV.refl _) (qae lJ)⟩|exact ⟨WkV.refl _,Nat.zero_le _⟩|exact OTh.same _ ⟨qae lJ,trivial,trivial⟩|exact ThV.chI (t :=tlA x1) (m :=c1) (j :=0) hc1 (kle rfl) rfl rfl rfl (Nat.mul_one _).symm rfl|exact ⟨kle rfl,UTh.rowI (t :=tlA x1) (qdz x1) (qer hx1) (Nat.mul_one _).symm⟩|apply OTh.mapo|apply And.intro)
   ·obtain rfl:K = 42 :=hK
    have r1 :=hRo.ok (k1,f1,x1,c1) (by simp)
    have hx1:∃ l,x1 = nvs l :=⟨_,r1.xs⟩
    have hc1:0 < c1 :=r1.pos.1
    have r2 :=hRo.ok (k2,f2,x2,c2) (by simp)
    have hx2:∃ l,x2 = nvs l :=⟨_,r2.xs⟩
    have hc2:0 < c2 :=r2.pos.1
    conv => whnf
    refine qac (qbn hi2) ?_
    conv => whnf
    refine .inl ?_
    conv => whnf
    refine ⟨[(k1,f1,x1,c1),(k2,f2,x2,c2)],[21,41],hL,⟨rfl,rfl,rfl,rfl,rfl,rfl,?_,?_,by decide,?_,?_,?_⟩⟩ <;> repeat' (first|exact trivial|exact rfl|exact ⟨_,rfl,.wk (WkV.refl _) (Nat.zero_le _)⟩|exact ⟨_,rfl,.wk (WkV.refl _) (kle rfl)⟩|exact ⟨_,rfl,.wk (WkV.refl _) (qae lW)⟩|exact ⟨_,rfl,.wk (WkV.refl _) (qae lJ)⟩|exact ⟨WkV.refl _,Nat.zero_le _⟩|exact OTh.same _ ⟨qae lJ,trivial,trivial⟩|exact ThV.chI (t :=tlA x1) (m :=c1) (j :=0) hc1 (kle rfl) rfl rfl rfl (Nat.mul_one _).symm rfl|exact ⟨kle rfl,UTh.rowI (t :=tlA x1) (qdz x1) (qer hx1) (Nat.mul_one _).symm⟩|exact ThV.chI (t :=tlA x2) (m :=c2) (j :=1) hc2 (kle rfl) rfl rfl rfl (Nat.mul_one _).symm rfl|exact ⟨kle rfl,UTh.rowI (t :=tlA x2) (qdz x2) (qer hx2) (Nat.mul_one _).symm⟩|apply OTh.mapo|apply And.intro)
   ·obtain rfl:K = 62 :=hK
    have r1 :=hRo.ok (k1,f1,x1,c1) (by simp)
    have hx1:∃ l,x1 = nvs l :=⟨_,r1.xs⟩
    have hc1:0 < c1 :=r1.pos.1
    have r2 :=hRo.ok (k2,f2,x2,c2) (by simp)
    have hx2:∃ l,x2 = nvs l :=⟨_,r2.xs⟩
    have hc2:0 < c2 :=r2.pos.1
    have r3 :=hRo.ok (k3,f3,x3,c3) (by simp)
    have hx3:∃ l,x3 = nvs l :=⟨_,r3.xs⟩
    have hc3:0 < c3 :=r3.pos.1
    conv => whnf
    refine qac (qbn hi2) ?_
    conv => whnf
    refine .inl ?_
    conv => whnf
    refine ⟨[(k1,f1,x1,c1),(k2,f2,x2,c2),(k3,f3,x3,c3)],[21,41,61],hL,⟨rfl,rfl,rfl,rfl,rfl,rfl,?_,?_,by decide,?_,?_,?_⟩⟩ <;> repeat' (first|exact trivial|exact rfl|exact ⟨_,rfl,.wk (WkV.refl _) (Nat.zero_le _)⟩|exact ⟨_,rfl,.wk (WkV.refl _) (kle rfl)⟩|exact ⟨_,rfl,.wk (WkV.refl _) (qae lW)⟩|exact ⟨_,rfl,.wk (WkV.refl _) (qae lJ)⟩|exact ⟨WkV.refl _,Nat.zero_le _⟩|exact OTh.same _ ⟨qae lJ,trivial,trivial⟩|exact ThV.chI (t :=tlA x1) (m :=c1) (j :=0) hc1 (kle rfl) rfl rfl rfl (Nat.mul_one _).symm rfl|exact ⟨kle rfl,UTh.rowI (t :=tlA x1) (qdz x1) (qer hx1) (Nat.mul_one _).symm⟩|exact ThV.chI (t :=tlA x2) (m :=c2) (j :=1) hc2 (kle rfl) rfl rfl rfl (Nat.mul_one _).symm rfl|exact ⟨kle rfl,UTh.rowI (t :=tlA x2) (qdz x2) (qer hx2) (Nat.mul_one _).symm⟩|exact ThV.chI (t :=tlA x3) (m :=c3) (j :=2) hc3 (kle rfl) rfl rfl rfl (Nat.mul_one _).symm rfl|exact ⟨kle rfl,UTh.rowI (t :=tlA x3) (qdz x3) (qer hx3) (Nat.mul_one _).symm⟩|apply OTh.mapo|apply And.intro)
   ·exact absurd (qmi hRo fun j hj => by have :=(h.2 j (by omega)).1;omega) (by simp)
 ·rintro L hL N hN
  have hRo:RowsOk P P.length L :=by rw [hL];exact qjr P P.length
  rcases L with _ | ⟨⟨k1,f1,x1,c1⟩,_ | ⟨⟨k2,f2,x2,c2⟩,_ | ⟨⟨k3,f3,x3,c3⟩,_ | ⟨r4,L⟩⟩⟩⟩
  ·exact absurd (hRo.al 0 (by have :=hJ.1.1;omega)) (fun ⟨_,z,_⟩ => nomatch z)
  ·obtain rfl:N = 3 :=hN
   obtain ⟨o1,ho1⟩ : ∃ o,o = ownN P k1 P.length :=⟨_,rfl⟩
   have r1 :=hRo.ok (k1,f1,x1,c1) (by simp)
   obtain rfl:x1 = nvs o1 :=by rw [ho1];exact r1.xs
   have hc1:c1 = o1.length :=by rw [ho1];exact r1.cn
   obtain ⟨m,hm⟩ : ∃ m,J.length = m + 1 :=⟨J.length - 1,by have :=hJ.1.1;omega⟩
   refine qaz hE hS ?_
   conv => whnf
   refine qaa (decide_eq_true (Int.le_refl _)) ?_
   conv => whnf
   refine qaa (decide_eq_true (show (J.length:Int) ≤ 9223372036854775807 by omega)) ?_
   conv => whnf
   refine qaa (decide_eq_true (show 8 * (J.length:Int).toNat ≤ 2 * 140737488355328 by omega)) ?_
   conv => whnf
   refine qm3 (show (J.length:Int).toNat = m + 1 from hm) ?_
   refine qia ?_
   refine qmk (show m + 1 + 1 < 2 ^ 64 by omega) ?_
   intro t0 ht0
   have hd0:TOf (dyl (m + 1) (dyV W J P [k1] [])) t0 :=fun j => by
    rw [ht0,qez]
    by_cases e:j < m + 1
    ·rw [if_pos e,if_pos e,qnf];rfl
    ·rw [if_neg e,if_neg e]
   obtain rfl :=qk4 hd0
   conv => whnf
   refine qc3 hE hS (A :=List Nat) rfl rfl rfl 4 1 1 2 [(iv k1,.slc 2 0 c1 0)] (kle rfl) [0,4,9,12,83] (fun _ => []) (fun a => [(3,.cells (tlA (dyl (m + 1) (dyV W J P [k1] a))) (m + 1) 3),(4,.miter 1 1 a 1),(2,.cells (tlA (nvs (soV J a 0 o1))) c1 3)]) (fun a => a) (fun _ => 1) (fun a => a ∈ [[],[0]]) (fun a => 1 - a.length) [] [] [(3,.cells (tlA (dyl (m + 1) fun j => Int.ofNat (dyN W J P j))) (m + 1) 3),(4,.miter 1 1 [] 0),(2,.cells (tlA (nvs (srtJ J o1))) c1 3)] (Nat.zero_le _) ?_ (zhg 5) (by simp) ?_ ?_ ?_ ?_
   ·exact fun x _ => .inl (Nat.zero_le _)
   ·intro a ha
    exact ⟨rfl,rfl,rfl,by decide⟩
   ·intro a ha e k v hj hn N hN
    obtain rfl:N = 5 :=hN
    have hj2:e = 0 ∧ k = iv k1 ∧ v = .slc 2 0 c1 0 :=by
     match e,hj with
     | 0,h => cases h;exact ⟨rfl,rfl,rfl⟩
     |(_+1),h => cases h
    obtain ⟨rfl,rfl,rfl⟩ :=hj2
    have hcp:1 ≤ c1 ∧ c1 ≤ P.length :=r1.pos
    conv => whnf
    refine qar hC ?_
    conv => whnf
    refine qan hE hS ?_
    conv => whnf
    refine qar hC ?_
    conv => whnf
    refine qan hE hS ?_
    conv => whnf
    refine qam hE hS ?_
    conv => whnf
    refine qac (decide_eq_false (show ¬ (20:Int) ≤ (c1:Int) by omega)) ?_
    conv => whnf
    refine qar hC ?_
    conv => whnf
    refine qan hE hS ?_
    conv => whnf
    have hso:soV J a 0 o1 = o1 :=if_neg hn
    have hb1:∀ x,x ∈ o1 → x < J.length :=fun x hx => by rw [ho1] at hx;have :=(qcp.1 hx).1;omega
    have hi0:IntKind.i64.wrap (0 + 1) = Int.ofNat 1 :=qa7 (m :=1) (by omega)
    refine qbj hE hS (A :=Nat × List Nat) [2] (fun x hx => nomatch hx) [0,1,2,3] (fun (i,_) => [(8,nv i)]) (fun (_,l) => [(2,.cells (tlA (nvs l)) c1 3)]) (fun _ => []) (fun (i,l) => (1 ≤ i ∧ i ≤ c1) ∧ l = insN J o1 (i - 1) ∧ l.length = c1 ∧ ∀ x,x ∈ l → x < J.length) (fun (i,_) => c1 - i) (1,soV J a 0 o1) (kle rfl) trivial rfl (zhy 5) ⟨⟨Nat.le_refl _,hcp.1⟩,hso,by rw [hso,hc1],by rw [hso];exact hb1⟩ ?_
    rintro ⟨i,l⟩ ⟨⟨hi1,hi2⟩,hl1,hl2,hl3⟩ N hN
    obtain rfl:N = 5 :=hN
    have hi2:i ≤ c1 :=hi2
    conv => whnf
    by_cases hi3:i < c1
    ·have hi4:IntKind.i64.wrap (Int.ofNat i + 1) = Int.ofNat (i + 1) :=qa7 (m :=i + 1) (by omega)
     refine qaa (qa3 hi3) ?_
     conv => whnf
     refine qbj hE hS (A :=Nat × List Nat) [2] (fun x hx => hx) [0,1,2,3,8] (fun (j,_) => [(9,nv j)]) (fun (_,l) => [(2,.cells (tlA (nvs l)) c1 3)]) (fun _ => []) (fun (j,l2) => j ≤ i ∧ bub J l2 j = insN J o1 i ∧ l2.length = c1 ∧ ∀ x,x ∈ l2 → x < J.length) (fun (j,_) => j) (i,l) (kle rfl) trivial rfl (zhy 5) ⟨Nat.le_refl _,by rw [hl1];obtain ⟨i,rfl⟩ : ∃ k,i = k + 1 :=⟨i - 1,by omega⟩;rfl,hl2,hl3⟩ ?_
     rintro ⟨j,l2⟩ ⟨hj1,hj2,hj3,hj4⟩ N hN
     obtain rfl:N = 5 :=hN
     have hj1:j ≤ i :=hj1
     cases j with
     |zero =>
      have z0:decide (Int.ofNat 0 > 0) = false :=rfl
      conv => whnf
      repeat ((first|refine qao z0 ?_|refine qap z0 ?_|refine pkF z0 ?_|refine qac z0 ?_|refine qao (qay z0) ?_|refine qap (qay z0) ?_|refine pkF (qay z0) ?_|refine qac (qay z0) ?_|refine qad hS (by kernel_rfl) ?_);conv => whnf)
      refine .inl ?_
      conv => whnf
      exact ⟨(i + 1,l2),⟨⟨by omega,hi3⟩,(by rw [Nat.add_sub_cancel];exact hj2),hj3,hj4⟩,by show c1 - (i + 1) < c1 - i;omega,Nat.le_refl _,(zhy 5)⟩
     |succ j =>
      have z0:decide (Int.ofNat (j + 1) > 0) = true :=decide_eq_true (Int.ofNat_lt.2 (Nat.succ_pos j))
      have wj:IntKind.i64.wrap (Int.ofNat (j + 1) - 1) = Int.ofNat j :=by
       rw [show Int.ofNat (j + 1) - 1 = Int.ofNat j by show ((j + 1:Nat):Int) - 1 = (j:Int);omega]
       exact qa7 (m :=j) (by omega)
      have wq:(IntKind.i64.wrap (Int.ofNat (j + 1) - 1)).toNat = j :=by rw [wj];rfl
      have ia:inR (IntKind.i64.wrap (Int.ofNat (j + 1) - 1)) c1 = true :=by rw [wj];exact qav (by omega)
      have ib:inR (Int.ofNat (j + 1)) c1 = true :=qav (by omega)
      have da:decide (0 + (IntKind.i64.wrap (Int.ofNat (j + 1) - 1)).toNat * 1 < c1) = true :=decide_eq_true (by rw [wq];omega)
      have db:decide (0 + (j + 1) * 1 < c1) = true :=decide_eq_true (by omega)
      have ga :=qbi (l :=l2) (i :=j) (i' :=0 + (IntKind.i64.wrap (Int.ofNat (j + 1) - 1)).toNat * 1) (by omega) (by rw [wq];omega)
      have gb :=qbi (l :=l2) (i :=j + 1) (i' :=0 + (j + 1) * 1) (by omega) (by omega)
      have ba:Nat.ble (0 + (IntKind.i64.wrap (Int.ofNat (j + 1) - 1)).toNat * 1 + 1) c1 = true :=Nat.ble_eq_true_of_le (by rw [wq];omega)
      have bb:Nat.ble (0 + (j + 1) * 1 + 1) c1 = true :=Nat.ble_eq_true_of_le (by omega)
      have ma:l2.getD j 0 < J.length :=hj4 _ (by rw [qca (show j < l2.length by omega)];exact List.getElem_mem _)
      have mb:l2.getD (j + 1) 0 < J.length :=hj4 _ (by rw [qca (show j + 1 < l2.length by omega)];exact List.getElem_mem _)
      have T1:tset (pathOf (0 + (j + 1) * 1)) (tlA (nvs l2)) (nv (l2.getD j 0)) = tlA (nvs (l2.set (j + 1) (l2.getD j 0))) :=qeg (by omega) (by omega)
      have T2:tset (pathOf (0 + (IntKind.i64.wrap (Int.ofNat (j + 1) - 1)).toNat * 1)) (tlA (nvs (l2.set (j + 1) (l2.getD j 0)))) (nv (l2.getD (j + 1) 0)) = tlA (nvs (swp l2 j)) :=qeg (by rw [List.length_set];omega) (by rw [wq];omega)
      have g2 :=qbi (l :=l2.set (j + 1) (l2.getD j 0)) (i :=j) (i' :=0 + (IntKind.i64.wrap (Int.ofNat (j + 1) - 1)).toNat * 1) (by rw [List.length_set];omega) (by rw [wq];omega)
      conv => whnf
      repeat ((first|refine qaf (qba ga) ?_|refine qaf (qba gb) ?_|refine qai ‹_› ?_|refine qah ‹_› ?_|refine pkT ‹_› ?_|refine qaa ‹_› ?_|refine qai (qaj ‹_›) ?_|refine qah (qaj ‹_›) ?_|refine pkT (qaj ‹_›) ?_|refine qaa (qaj ‹_›) ?_|refine qad hS (by kernel_rfl) ?_);conv => whnf)
      refine qa6 hC (HFun.pureR (qgp mb ma) (ob1 rfl)) ?_
      conv => whnf
      by_cases c:dueL J (l2.getD (j + 1) 0) (l2.getD j 0)
      ·have cc:decide (ordI (gL J (l2.getD (j + 1) 0)).2.2 (gL J (l2.getD j 0)).2.2 < 0) = true :=by rw [qcj];exact decide_eq_true c
       repeat ((first|refine qaf (qba ga) ?_|refine qaf (qba gb) ?_|refine qai ‹_› ?_|refine qah ‹_› ?_|refine pkT ‹_› ?_|refine qaa ‹_› ?_|refine qai (qaj ‹_›) ?_|refine qah (qaj ‹_›) ?_|refine pkT (qaj ‹_›) ?_|refine qaa (qaj ‹_›) ?_|refine qad hS (by kernel_rfl) ?_);conv => whnf)
       refine qbc gb T1 ?_
       conv => whnf
       repeat ((first|refine qai ‹_› ?_|refine qah ‹_› ?_|refine pkT ‹_› ?_|refine qaa ‹_› ?_|refine qad hS (by kernel_rfl) ?_);conv => whnf)
       refine qbc g2 T2 ?_
       conv => whnf
       refine qad hS (by kernel_rfl) ?_
       conv => whnf
       exact ⟨(j,swp l2 j),⟨by omega,by rw [bub,if_pos c] at hj2;exact hj2,by rw [qgg];exact hj3,fun x hx => hj4 x (qgf (by omega) hx)⟩,by show j < j + 1;omega,Nat.le_refl _,(zhy 5)⟩
      ·have cc:decide (ordI (gL J (l2.getD (j + 1) 0)).2.2 (gL J (l2.getD j 0)).2.2 < 0) = false :=by rw [qcj];exact decide_eq_false c
       repeat ((first|refine qai ‹_› ?_|refine qah ‹_› ?_|refine pkT ‹_› ?_|refine qaa ‹_› ?_|refine qao ‹_› ?_|refine qap ‹_› ?_|refine pkF ‹_› ?_|refine qac ‹_› ?_|refine qai (qaj ‹_›) ?_|refine qah (qaj ‹_›) ?_|refine pkT (qaj ‹_›) ?_|refine qaa (qaj ‹_›) ?_|refine qad hS (by kernel_rfl) ?_);conv => whnf)
       refine .inl ?_
       conv => whnf
       exact ⟨(i + 1,l2),⟨⟨by omega,hi3⟩,(by rw [bub,if_neg c] at hj2;rw [Nat.add_sub_cancel];exact hj2),hj3,hj4⟩,by show c1 - (i + 1) < c1 - i;omega,Nat.le_refl _,(zhy 5)⟩
    ·refine qac (qbn hi3) ?_
     conv => whnf
     refine .inl ?_
     conv => whnf
     have hS1:l = srtJ J o1 :=by rw [hl1];unfold srtJ;congr 1;omega
     refine qam hE hS ?_
     conv => whnf
     refine qac (decide_eq_false (show ¬ (20:Int) < (c1:Int) by omega)) ?_
     conv => whnf
     have hS2:l = srtJ J (ownN P k1 P.length) :=by rw [hS1,ho1]
     have D0 :=dayF hW hJ h hS2 (t :=0) (by omega)
     have I1 :=(DayI.init W J P [k1] a l).step (by omega) D0
     have ia0:inR (0:Int) c1 = true :=qav (i :=0) (by omega)
     have db0:decide (0 + 0 * 1 < c1) = true :=decide_eq_true (by omega)
     have g00 :=qbi (l :=l) (i :=0) (i' :=0 + 0 * 1) (by omega) (by omega)
     have iJ0:inR (Int.ofNat (l.getD 0 0)) J.length = true :=qav D0.it
     have gh0 :=qbf J (l.getD 0 0) D0.it
     refine qam hE hS ?_
     conv => whnf
     refine qaa (decide_eq_true (show (0:Int) < (c1:Int) by omega)) ?_
     conv => whnf
     have iw1:inR k1 W.length = true :=by
      rw [show k1 = Int.ofNat k1.toNat from (Int.toNat_of_nonneg D0.kw.1).symm]
      exact qav D0.kw.2
     have gw1 :=qb9 W k1.toNat D0.kw.2
     have im0:inR (Int.ofNat (l.getD 0 0)) (J.length:Int).toNat = true :=qav (by have :=D0.it;omega)
     have bm0:Nat.ble (0 + l.getD 0 0 * 1 + 1) (m + 1) = true :=Nat.ble_eq_true_of_le (by have :=D0.it;omega)
     have gd0 :=qd4 (m :=m + 1) (i :=l.getD 0 0) (i' :=0 + l.getD 0 0 * 1) (dyV W J P [k1] a) (by have :=D0.it;omega) (by omega)
     have T0 :=qc5 (m :=m + 1) (i :=l.getD 0 0) (i' :=0 + l.getD 0 0 * 1) (dyV W J P [k1] a) (Int.ofNat (dyN W J P (l.getD 0 0))) (by have :=D0.it;omega) (by omega)
     repeat ((first|refine qaf (qba g00) ?_|refine qaf (nthP gh0) ?_|refine qai ‹_› ?_|refine qah ‹_› ?_|refine pkT ‹_› ?_|refine qaa ‹_› ?_|refine qad hS (by kernel_rfl) ?_);conv => whnf)
     refine qak hC (D0.sum _ _ rfl) ?_
     conv => whnf
     repeat ((first|refine qaf (nthP gw1) ?_|refine qai ‹_› ?_|refine qah ‹_› ?_|refine pkT ‹_› ?_|refine qaa ‹_› ?_|refine qab hC (D0.up) ?_|refine qad hS (by kernel_rfl) ?_);conv => whnf)
     refine qbc gd0 T0 ?_
     conv => whnf
     refine qad hS (by kernel_rfl) ?_
     conv => whnf
     have h1w:IntKind.i64.wrap (0 + 1) = Int.ofNat 1 :=qa7 (m :=1) (by omega)
     refine qa4 hE hS (A :=Nat × List AV × (Nat → Int)) [0,4,9,12,13,83,92,93] (fun (t,X,_) => [(15,.lst X t (.ch 5)),(94,nv t)]) (fun (t,_,f) => [(3,.cells (tlA (dyl (m + 1) f)) (m + 1) 3),(5,.chain t 1 3)]) (fun _ => []) (fun (t,X,f) => 1 ≤ t ∧ DayI W J P [k1] a l t X f) (fun (t,_,_) => l.length - t) (1,_,_) (Nat.zero_le _) rfl (zhg 18) ⟨Nat.le_refl _,I1⟩ ?_
     rintro ⟨t,X,f⟩ ⟨ht1,hI⟩ N hN
     obtain rfl:N = 18 :=hN
     have hI:DayI W J P [k1] a l t X f :=hI
     have hXl :=hI.len
     conv => whnf
     by_cases ht:t < l.length
     ·have D :=dayF hW hJ h hS2 (t :=t) ht
      have DS:∀ n c,n = t + 1 → Pure prog 116 (wkl [.lst (X ++ [iv (gL J (l.getD t 0)).1]) n (.ch c)]) (nv (hrs J (l.take (t + 1))).sum) :=by rw [hI.xs];exact D.sum
      have I2 :=hI.step ht D
      have ia:inR (Int.ofNat t) c1 = true :=qav (by omega)
      have db:decide (0 + t * 1 < c1) = true :=decide_eq_true (by omega)
      have g0 :=qbi (l :=l) (i :=t) (i' :=0 + t * 1) ht (by omega)
      have iJ:inR (Int.ofNat (l.getD t 0)) J.length = true :=qav D.it
      have gh :=qbf J (l.getD t 0) D.it
      have im:inR (Int.ofNat (l.getD t 0)) (J.length:Int).toNat = true :=qav (by have :=D.it;omega)
      have bm:Nat.ble (0 + l.getD t 0 * 1 + 1) (m + 1) = true :=Nat.ble_eq_true_of_le (by have :=D.it;omega)
      have gd :=qd4 (m :=m + 1) (i :=l.getD t 0) (i' :=0 + l.getD t 0 * 1) f (by have :=D.it;omega) (by omega)
      have T :=qc5 (m :=m + 1) (i :=l.getD t 0) (i' :=0 + l.getD t 0 * 1) f (Int.ofNat (dyN W J P (l.getD t 0))) (by have :=D.it;omega) (by omega)
      have d1:decide ((t + (0 + 1)) * 8 ≤ 140737488355328) = true :=decide_eq_true (by omega)
      have d2:decide (t + (0 + 1) ≤ 9223372036854775807) = true :=decide_eq_true (by omega)
      have d3:decide (t = t) = true :=decide_eq_true rfl
      have d4:qcf X (t * 1) = true :=qfa (by omega)
      have ht2:IntKind.i64.wrap (Int.ofNat t + 1) = Int.ofNat (t + 1) :=qa7 (m :=t + 1) (by omega)
      repeat ((first|refine qaf (qba g0) ?_|refine qaf (nthP gh) ?_|refine qai (qa3 (show t < c1 by omega)) ?_|refine qah (qa3 (show t < c1 by omega)) ?_|refine pkT (qa3 (show t < c1 by omega)) ?_|refine qaa (qa3 (show t < c1 by omega)) ?_|refine qao (qa3 (show t < c1 by omega)) ?_|refine qap (qa3 (show t < c1 by omega)) ?_|refine pkF (qa3 (show t < c1 by omega)) ?_|refine qac (qa3 (show t < c1 by omega)) ?_|refine qai ‹_› ?_|refine qah ‹_› ?_|refine pkT ‹_› ?_|refine qaa ‹_› ?_|refine qad hS (by kernel_rfl) ?_);conv => whnf)
      refine qak hC (DS _ _ rfl) ?_
      conv => whnf
      repeat ((first|refine qaf (nthP gw1) ?_|refine qai ‹_› ?_|refine qah ‹_› ?_|refine pkT ‹_› ?_|refine qaa ‹_› ?_|refine qab hC (D.up) ?_|refine qad hS (by kernel_rfl) ?_);conv => whnf)
      refine qbc gd T ?_
      conv => whnf
      refine qad hS (by kernel_rfl) ?_
      conv => whnf
      exact ⟨(t + 1,_,_),⟨by omega,I2⟩,by show l.length - (t + 1) < l.length - t;omega,Nat.le_refl _,(zhg 18)⟩
     ·refine qac (qbn (show ¬ t < c1 by omega)) ?_
      conv => whnf
      refine .inl ?_
      conv => whnf
      have E1 :=hI.last (e :=0) (by have :=hI.le;omega) hS2 rfl
      rw [show P.length = m + 1 by omega] at E1
      have E2:tlA (nvs l) = tlA (nvs (soV J (0 :: a) 0 o1)) :=by rw [hS1];exact congrArg (fun z => tlA (nvs z)) (if_pos (List.mem_cons_self ..)).symm
      exact ⟨0 :: a,(qre a ha 0 (by decide) hn).1,(qre a ha 0 (by decide) hn).2,(zhg 5)⟩
   ·intro a ha hall N hN
    subst hN
    conv => whnf
    have a1:0 ∈ a :=hall 0 (kle rfl)
    have E1:tlA (dyl (m + 1) (dyV W J P [k1] a)) = tlA (dyl (m + 1) fun j => Int.ofNat (dyN W J P j)) :=by
     refine congrArg tlA (qf7 fun j hj => ?_)
     obtain ⟨r,q1,q2⟩ :=hRo.al j (by omega)
     refine qng ?_
     simp only [List.mem_cons,List.not_mem_nil,or_false] at q1
     subst q1
     exact ⟨0,a1,q2⟩
    have F1:tlA (nvs (soV J a 0 o1)) = tlA (nvs (srtJ J o1)) :=congrArg (fun z => tlA (nvs z)) (if_pos a1)
    exact ⟨rfl,(zhy 5)⟩
   ·intro N hN
    subst hN
    conv => whnf
    exact ⟨_,rfl,qnh hm (rfl:_ = AObj.cells (tlA (dyl (m + 1) fun j => Int.ofNat (dyN W J P j))) (m + 1) 3)⟩
  ·obtain rfl:N = 4 :=hN
   obtain ⟨o1,ho1⟩ : ∃ o,o = ownN P k1 P.length :=⟨_,rfl⟩
   have r1 :=hRo.ok (k1,f1,x1,c1) (by simp)
   obtain rfl:x1 = nvs o1 :=by rw [ho1];exact r1.xs
   have hc1:c1 = o1.length :=by rw [ho1];exact r1.cn
   obtain ⟨o2,ho2⟩ : ∃ o,o = ownN P k2 P.length :=⟨_,rfl⟩
   have r2 :=hRo.ok (k2,f2,x2,c2) (by simp)
   obtain rfl:x2 = nvs o2 :=by rw [ho2];exact r2.xs
   have hc2:c2 = o2.length :=by rw [ho2];exact r2.cn
   obtain ⟨m,hm⟩ : ∃ m,J.length = m + 1 :=⟨J.length - 1,by have :=hJ.1.1;omega⟩
   refine qaz hE hS ?_
   conv => whnf
   refine qaa (decide_eq_true (Int.le_refl _)) ?_
   conv => whnf
   refine qaa (decide_eq_true (show (J.length:Int) ≤ 9223372036854775807 by omega)) ?_
   conv => whnf
   refine qaa (decide_eq_true (show 8 * (J.length:Int).toNat ≤ 2 * 140737488355328 by omega)) ?_
   conv => whnf
   refine qm3 (show (J.length:Int).toNat = m + 1 from hm) ?_
   refine qia ?_
   refine qmk (show m + 1 + 1 < 2 ^ 64 by omega) ?_
   intro t0 ht0
   have hd0:TOf (dyl (m + 1) (dyV W J P [k1,k2] [])) t0 :=fun j => by
    rw [ht0,qez]
    by_cases e:j < m + 1
    ·rw [if_pos e,if_pos e,qnf];rfl
    ·rw [if_neg e,if_neg e]
   obtain rfl :=qk4 hd0
   conv => whnf
   refine qc3 hE hS (A :=List Nat) rfl rfl rfl 5 1 2 2 [(iv k1,.slc 2 0 c1 0),(iv k2,.slc 3 0 c2 0)] (kle rfl) [0,4,9,12,83] (fun _ => []) (fun a => [(4,.cells (tlA (dyl (m + 1) (dyV W J P [k1,k2] a))) (m + 1) 3),(5,.miter 1 2 a 2),(2,.cells (tlA (nvs (soV J a 0 o1))) c1 3),(3,.cells (tlA (nvs (soV J a 1 o2))) c2 3)]) (fun a => a) (fun _ => 2) (fun a => a ∈ [[],[0],[1],[0,1],[1,0]]) (fun a => 2 - a.length) [] [] [(4,.cells (tlA (dyl (m + 1) fun j => Int.ofNat (dyN W J P j))) (m + 1) 3),(5,.miter 1 2 [] 0),(2,.cells (tlA (nvs (srtJ J o1))) c1 3),(3,.cells (tlA (nvs (srtJ J o2))) c2 3)] (Nat.zero_le _) ?_ (zhg 6) (by simp) ?_ ?_ ?_ ?_
   ·exact fun x _ => .inl (Nat.zero_le _)
   ·intro a ha
    exact ⟨rfl,rfl,rfl,by decide⟩
   ·intro a ha e k v hj hn N hN
    obtain rfl:N = 6 :=hN
    have hj2:e = 0 ∧ k = iv k1 ∧ v = .slc 2 0 c1 0 ∨ e = 1 ∧ k = iv k2 ∧ v = .slc 3 0 c2 0 :=by
     match e,hj with
     | 0,h => cases h;exact .inl ⟨rfl,rfl,rfl⟩
     | 1,h => cases h;exact .inr (⟨rfl,rfl,rfl⟩)
     |(_+2),h => cases h
    rcases hj2 with ⟨rfl,rfl,rfl⟩ | ⟨rfl,rfl,rfl⟩
    ·have hcp:1 ≤ c1 ∧ c1 ≤ P.length :=r1.pos
     conv => whnf
     refine qar hC ?_
     conv => whnf
     refine qan hE hS ?_
     conv => whnf
     refine qar hC ?_
     conv => whnf
     refine qan hE hS ?_
     conv => whnf
     refine qam hE hS ?_
     conv => whnf
     refine qac (decide_eq_false (show ¬ (20:Int) ≤ (c1:Int) by omega)) ?_
     conv => whnf
     refine qar hC ?_
     conv => whnf
     refine qan hE hS ?_
     conv => whnf
     have hso:soV J a 0 o1 = o1 :=if_neg hn
     have hb1:∀ x,x ∈ o1 → x < J.length :=fun x hx => by rw [ho1] at hx;have :=(qcp.1 hx).1;omega
     have hi0:IntKind.i64.wrap (0 + 1) = Int.ofNat 1 :=qa7 (m :=1) (by omega)
     refine qbj hE hS (A :=Nat × List Nat) [2] (fun x hx => nomatch hx) [0,1,2,3] (fun (i,_) => [(8,nv i)]) (fun (_,l) => [(2,.cells (tlA (nvs l)) c1 3)]) (fun _ => []) (fun (i,l) => (1 ≤ i ∧ i ≤ c1) ∧ l = insN J o1 (i - 1) ∧ l.length = c1 ∧ ∀ x,x ∈ l → x < J.length) (fun (i,_) => c1 - i) (1,soV J a 0 o1) (kle rfl) trivial rfl (zhy 6) ⟨⟨Nat.le_refl _,hcp.1⟩,hso,by rw [hso,hc1],by rw [hso];exact hb1⟩ ?_
     rintro ⟨i,l⟩ ⟨⟨hi1,hi2⟩,hl1,hl2,hl3⟩ N hN
     obtain rfl:N = 6 :=hN
     have hi2:i ≤ c1 :=hi2
     conv => whnf
     by_cases hi3:i < c1
     ·have hi4:IntKind.i64.wrap (Int.ofNat i + 1) = Int.ofNat (i + 1) :=qa7 (m :=i + 1) (by omega)
      refine qaa (qa3 hi3) ?_
      conv => whnf
      refine qbj hE hS (A :=Nat × List Nat) [2] (fun x hx => hx) [0,1,2,3,8] (fun (j,_) => [(9,nv j)]) (fun (_,l) => [(2,.cells (tlA (nvs l)) c1 3)]) (fun _ => []) (fun (j,l2) => j ≤ i ∧ bub J l2 j = insN J o1 i ∧ l2.length = c1 ∧ ∀ x,x ∈ l2 → x < J.length) (fun (j,_) => j) (i,l) (kle rfl) trivial rfl (zhy 6) ⟨Nat.le_refl _,by rw [hl1];obtain ⟨i,rfl⟩ : ∃ k,i = k + 1 :=⟨i - 1,by omega⟩;rfl,hl2,hl3⟩ ?_
      rintro ⟨j,l2⟩ ⟨hj1,hj2,hj3,hj4⟩ N hN
      obtain rfl:N = 6 :=hN
      have hj1:j ≤ i :=hj1
      cases j with
      |zero =>
       have z0:decide (Int.ofNat 0 > 0) = false :=rfl
       conv => whnf
       repeat ((first|refine qao z0 ?_|refine qap z0 ?_|refine pkF z0 ?_|refine qac z0 ?_|refine qao (qay z0) ?_|refine qap (qay z0) ?_|refine pkF (qay z0) ?_|refine qac (qay z0) ?_|refine qad hS (by kernel_rfl) ?_);conv => whnf)
       refine .inl ?_
       conv => whnf
       exact ⟨(i + 1,l2),⟨⟨by omega,hi3⟩,(by rw [Nat.add_sub_cancel];exact hj2),hj3,hj4⟩,by show c1 - (i + 1) < c1 - i;omega,Nat.le_refl _,(zhy 6)⟩
      |succ j =>
       have z0:decide (Int.ofNat (j + 1) > 0) = true :=decide_eq_true (Int.ofNat_lt.2 (Nat.succ_pos j))
       have wj:IntKind.i64.wrap (Int.ofNat (j + 1) - 1) = Int.ofNat j :=by
        rw [show Int.ofNat (j + 1) - 1 = Int.ofNat j by show ((j + 1:Nat):Int) - 1 = (j:Int);omega]
        exact qa7 (m :=j) (by omega)
       have wq:(IntKind.i64.wrap (Int.ofNat (j + 1) - 1)).toNat = j :=by rw [wj];rfl
       have ia:inR (IntKind.i64.wrap (Int.ofNat (j + 1) - 1)) c1 = true :=by rw [wj];exact qav (by omega)
       have ib:inR (Int.ofNat (j + 1)) c1 = true :=qav (by omega)
       have da:decide (0 + (IntKind.i64.wrap (Int.ofNat (j + 1) - 1)).toNat * 1 < c1) = true :=decide_eq_true (by rw [wq];omega)
       have db:decide (0 + (j + 1) * 1 < c1) = true :=decide_eq_true (by omega)
       have ga :=qbi (l :=l2) (i :=j) (i' :=0 + (IntKind.i64.wrap (Int.ofNat (j + 1) - 1)).toNat * 1) (by omega) (by rw [wq];omega)
       have gb :=qbi (l :=l2) (i :=j + 1) (i' :=0 + (j + 1) * 1) (by omega) (by omega)
       have ba:Nat.ble (0 + (IntKind.i64.wrap (Int.ofNat (j + 1) - 1)).toNat * 1 + 1) c1 = true :=Nat.ble_eq_true_of_le (by rw [wq];omega)
       have bb:Nat.ble (0 + (j + 1) * 1 + 1) c1 = true :=Nat.ble_eq_true_of_le (by omega)
       have ma:l2.getD j 0 < J.length :=hj4 _ (by rw [qca (show j < l2.length by omega)];exact List.getElem_mem _)
       have mb:l2.getD (j + 1) 0 < J.length :=hj4 _ (by rw [qca (show j + 1 < l2.length by omega)];exact List.getElem_mem _)
       have T1:tset (pathOf (0 + (j + 1) * 1)) (tlA (nvs l2)) (nv (l2.getD j 0)) = tlA (nvs (l2.set (j + 1) (l2.getD j 0))) :=qeg (by omega) (by omega)
       have T2:tset (pathOf (0 + (IntKind.i64.wrap (Int.ofNat (j + 1) - 1)).toNat * 1)) (tlA (nvs (l2.set (j + 1) (l2.getD j 0)))) (nv (l2.getD (j + 1) 0)) = tlA (nvs (swp l2 j)) :=qeg (by rw [List.length_set];omega) (by rw [wq];omega)
       have g2 :=qbi (l :=l2.set (j + 1) (l2.getD j 0)) (i :=j) (i' :=0 + (IntKind.i64.wrap (Int.ofNat (j + 1) - 1)).toNat * 1) (by rw [List.length_set];omega) (by rw [wq];omega)
       conv => whnf
       repeat ((first|refine qaf (qba ga) ?_|refine qaf (qba gb) ?_|refine qai ‹_› ?_|refine qah ‹_› ?_|refine pkT ‹_› ?_|refine qaa ‹_› ?_|refine qai (qaj ‹_›) ?_|refine qah (qaj ‹_›) ?_|refine pkT (qaj ‹_›) ?_|refine qaa (qaj ‹_›) ?_|refine qad hS (by kernel_rfl) ?_);conv => whnf)
       refine qa6 hC (HFun.pureR (qgp mb ma) (ob1 rfl)) ?_
       conv => whnf
       by_cases c:dueL J (l2.getD (j + 1) 0) (l2.getD j 0)
       ·have cc:decide (ordI (gL J (l2.getD (j + 1) 0)).2.2 (gL J (l2.getD j 0)).2.2 < 0) = true :=by rw [qcj];exact decide_eq_true c
        repeat ((first|refine qaf (qba ga) ?_|refine qaf (qba gb) ?_|refine qai ‹_› ?_|refine qah ‹_› ?_|refine pkT ‹_› ?_|refine qaa ‹_› ?_|refine qai (qaj ‹_›) ?_|refine qah (qaj ‹_›) ?_|refine pkT (qaj ‹_›) ?_|refine qaa (qaj ‹_›) ?_|refine qad hS (by kernel_rfl) ?_);conv => whnf)
        refine qbc gb T1 ?_
        conv => whnf
        repeat ((first|refine qai ‹_› ?_|refine qah ‹_› ?_|refine pkT ‹_› ?_|refine qaa ‹_› ?_|refine qad hS (by kernel_rfl) ?_);conv => whnf)
        refine qbc g2 T2 ?_
        conv => whnf
        refine qad hS (by kernel_rfl) ?_
        conv => whnf
        exact ⟨(j,swp l2 j),⟨by omega,by rw [bub,if_pos c] at hj2;exact hj2,by rw [qgg];exact hj3,fun x hx => hj4 x (qgf (by omega) hx)⟩,by show j < j + 1;omega,Nat.le_refl _,(zhy 6)⟩
       ·have cc:decide (ordI (gL J (l2.getD (j + 1) 0)).2.2 (gL J (l2.getD j 0)).2.2 < 0) = false :=by rw [qcj];exact decide_eq_false c
        repeat ((first|refine qai ‹_› ?_|refine qah ‹_› ?_|refine pkT ‹_› ?_|refine qaa ‹_› ?_|refine qao ‹_› ?_|refine qap ‹_› ?_|refine pkF ‹_› ?_|refine qac ‹_› ?_|refine qai (qaj ‹_›) ?_|refine qah (qaj ‹_›) ?_|refine pkT (qaj ‹_›) ?_|refine qaa (qaj ‹_›) ?_|refine qad hS (by kernel_rfl) ?_);conv => whnf)
        refine .inl ?_
        conv => whnf
        exact ⟨(i + 1,l2),⟨⟨by omega,hi3⟩,(by rw [bub,if_neg c] at hj2;rw [Nat.add_sub_cancel];exact hj2),hj3,hj4⟩,by show c1 - (i + 1) < c1 - i;omega,Nat.le_refl _,(zhy 6)⟩
     ·refine qac (qbn hi3) ?_
      conv => whnf
      refine .inl ?_
      conv => whnf
      have hS1:l = srtJ J o1 :=by rw [hl1];unfold srtJ;congr 1;omega
      refine qam hE hS ?_
      conv => whnf
      refine qac (decide_eq_false (show ¬ (20:Int) < (c1:Int) by omega)) ?_
      conv => whnf
      have hS2:l = srtJ J (ownN P k1 P.length) :=by rw [hS1,ho1]
      have D0 :=dayF hW hJ h hS2 (t :=0) (by omega)
      have I1 :=(DayI.init W J P [k1,k2] a l).step (by omega) D0
      have ia0:inR (0:Int) c1 = true :=qav (i :=0) (by omega)
      have db0:decide (0 + 0 * 1 < c1) = true :=decide_eq_true (by omega)
      have g00 :=qbi (l :=l) (i :=0) (i' :=0 + 0 * 1) (by omega) (by omega)
      have iJ0:inR (Int.ofNat (l.getD 0 0)) J.length = true :=qav D0.it
      have gh0 :=qbf J (l.getD 0 0) D0.it
      refine qam hE hS ?_
      conv => whnf
      refine qaa (decide_eq_true (show (0:Int) < (c1:Int) by omega)) ?_
      conv => whnf
      have iw1:inR k1 W.length = true :=by
       rw [show k1 = Int.ofNat k1.toNat from (Int.toNat_of_nonneg D0.kw.1).symm]
       exact qav D0.kw.2
      have gw1 :=qb9 W k1.toNat D0.kw.2
      have im0:inR (Int.ofNat (l.getD 0 0)) (J.length:Int).toNat = true :=qav (by have :=D0.it;omega)
      have bm0:Nat.ble (0 + l.getD 0 0 * 1 + 1) (m + 1) = true :=Nat.ble_eq_true_of_le (by have :=D0.it;omega)
      have gd0 :=qd4 (m :=m + 1) (i :=l.getD 0 0) (i' :=0 + l.getD 0 0 * 1) (dyV W J P [k1,k2] a) (by have :=D0.it;omega) (by omega)
      have T0 :=qc5 (m :=m + 1) (i :=l.getD 0 0) (i' :=0 + l.getD 0 0 * 1) (dyV W J P [k1,k2] a) (Int.ofNat (dyN W J P (l.getD 0 0))) (by have :=D0.it;omega) (by omega)
      repeat ((first|refine qaf (qba g00) ?_|refine qaf (nthP gh0) ?_|refine qai ‹_› ?_|refine qah ‹_› ?_|refine pkT ‹_› ?_|refine qaa ‹_› ?_|refine qad hS (by kernel_rfl) ?_);conv => whnf)
      refine qak hC (D0.sum _ _ rfl) ?_
      conv => whnf
      repeat ((first|refine qaf (nthP gw1) ?_|refine qai ‹_› ?_|refine qah ‹_› ?_|refine pkT ‹_› ?_|refine qaa ‹_› ?_|refine qab hC (D0.up) ?_|refine qad hS (by kernel_rfl) ?_);conv => whnf)
      refine qbc gd0 T0 ?_
      conv => whnf
      refine qad hS (by kernel_rfl) ?_
      conv => whnf
      have h1w:IntKind.i64.wrap (0 + 1) = Int.ofNat 1 :=qa7 (m :=1) (by omega)
      refine qa4 hE hS (A :=Nat × List AV × (Nat → Int)) [0,4,9,12,13,83,92,93] (fun (t,X,_) => [(15,.lst X t (.ch 6)),(94,nv t)]) (fun (t,_,f) => [(4,.cells (tlA (dyl (m + 1) f)) (m + 1) 3),(6,.chain t 1 3)]) (fun _ => []) (fun (t,X,f) => 1 ≤ t ∧ DayI W J P [k1,k2] a l t X f) (fun (t,_,_) => l.length - t) (1,_,_) (Nat.zero_le _) rfl (zhg 19) ⟨Nat.le_refl _,I1⟩ ?_
      rintro ⟨t,X,f⟩ ⟨ht1,hI⟩ N hN
      obtain rfl:N = 19 :=hN
      have hI:DayI W J P [k1,k2] a l t X f :=hI
      have hXl :=hI.len
      conv => whnf
      by_cases ht:t < l.length
      ·have D :=dayF hW hJ h hS2 (t :=t) ht
       have DS:∀ n c,n = t + 1 → Pure prog 116 (wkl [.lst (X ++ [iv (gL J (l.getD t 0)).1]) n (.ch c)]) (nv (hrs J (l.take (t + 1))).sum) :=by rw [hI.xs];exact D.sum
       have I2 :=hI.step ht D
       have ia:inR (Int.ofNat t) c1 = true :=qav (by omega)
       have db:decide (0 + t * 1 < c1) = true :=decide_eq_true (by omega)
       have g0 :=qbi (l :=l) (i :=t) (i' :=0 + t * 1) ht (by omega)
       have iJ:inR (Int.ofNat (l.getD t 0)) J.length = true :=qav D.it
       have gh :=qbf J (l.getD t 0) D.it
       have im:inR (Int.ofNat (l.getD t 0)) (J.length:Int).toNat = true :=qav (by have :=D.it;omega)
       have bm:Nat.ble (0 + l.getD t 0 * 1 + 1) (m + 1) = true :=Nat.ble_eq_true_of_le (by have :=D.it;omega)
       have gd :=qd4 (m :=m + 1) (i :=l.getD t 0) (i' :=0 + l.getD t 0 * 1) f (by have :=D.it;omega) (by omega)
       have T :=qc5 (m :=m + 1) (i :=l.getD t 0) (i' :=0 + l.getD t 0 * 1) f (Int.ofNat (dyN W J P (l.getD t 0))) (by have :=D.it;omega) (by omega)
       have d1:decide ((t + (0 + 1)) * 8 ≤ 140737488355328) = true :=decide_eq_true (by omega)
       have d2:decide (t + (0 + 1) ≤ 9223372036854775807) = true :=decide_eq_true (by omega)
       have d3:decide (t = t) = true :=decide_eq_true rfl
       have d4:qcf X (t * 1) = true :=qfa (by omega)
       have ht2:IntKind.i64.wrap (Int.ofNat t + 1) = Int.ofNat (t + 1) :=qa7 (m :=t + 1) (by omega)
       repeat ((first|refine qaf (qba g0) ?_|refine qaf (nthP gh) ?_|refine qai (qa3 (show t < c1 by omega)) ?_|refine qah (qa3 (show t < c1 by omega)) ?_|refine pkT (qa3 (show t < c1 by omega)) ?_|refine qaa (qa3 (show t < c1 by omega)) ?_|refine qao (qa3 (show t < c1 by omega)) ?_|refine qap (qa3 (show t < c1 by omega)) ?_|refine pkF (qa3 (show t < c1 by omega)) ?_|refine qac (qa3 (show t < c1 by omega)) ?_|refine qai ‹_› ?_|refine qah ‹_› ?_|refine pkT ‹_› ?_|refine qaa ‹_› ?_|refine qad hS (by kernel_rfl) ?_);conv => whnf)
       refine qak hC (DS _ _ rfl) ?_
       conv => whnf
       repeat ((first|refine qaf (nthP gw1) ?_|refine qai ‹_› ?_|refine qah ‹_› ?_|refine pkT ‹_› ?_|refine qaa ‹_› ?_|refine qab hC (D.up) ?_|refine qad hS (by kernel_rfl) ?_);conv => whnf)
       refine qbc gd T ?_
       conv => whnf
       refine qad hS (by kernel_rfl) ?_
       conv => whnf
       exact ⟨(t + 1,_,_),⟨by omega,I2⟩,by show l.length - (t + 1) < l.length - t;omega,Nat.le_refl _,(zhg 19)⟩
      ·refine qac (qbn (show ¬ t < c1 by omega)) ?_
       conv => whnf
       refine .inl ?_
       conv => whnf
       have E1 :=hI.last (e :=0) (by have :=hI.le;omega) hS2 rfl
       rw [show P.length = m + 1 by omega] at E1
       have E2:tlA (nvs l) = tlA (nvs (soV J (0 :: a) 0 o1)) :=by rw [hS1];exact congrArg (fun z => tlA (nvs z)) (if_pos (List.mem_cons_self ..)).symm
       exact ⟨0 :: a,(qjp a ha 0 (by decide) hn).1,(qjp a ha 0 (by decide) hn).2,(zhg 6)⟩
    ·have hcp:1 ≤ c2 ∧ c2 ≤ P.length :=r2.pos
     conv => whnf
     refine qar hC ?_
     conv => whnf
     refine qan hE hS ?_
     conv => whnf
     refine qar hC ?_
     conv => whnf
     refine qan hE hS ?_
     conv => whnf
     refine qam hE hS ?_
     conv => whnf
     refine qac (decide_eq_false (show ¬ (20:Int) ≤ (c2:Int) by omega)) ?_
     conv => whnf
     refine qar hC ?_
     conv => whnf
     refine qan hE hS ?_
     conv => whnf
     have hso:soV J a 1 o2 = o2 :=if_neg hn
     have hb1:∀ x,x ∈ o2 → x < J.length :=fun x hx => by rw [ho2] at hx;have :=(qcp.1 hx).1;omega
     have hi0:IntKind.i64.wrap (0 + 1) = Int.ofNat 1 :=qa7 (m :=1) (by omega)
     refine qbj hE hS (A :=Nat × List Nat) [3] (fun x hx => nomatch hx) [0,1,2,3] (fun (i,_) => [(8,nv i)]) (fun (_,l) => [(3,.cells (tlA (nvs l)) c2 3)]) (fun _ => []) (fun (i,l) => (1 ≤ i ∧ i ≤ c2) ∧ l = insN J o2 (i - 1) ∧ l.length = c2 ∧ ∀ x,x ∈ l → x < J.length) (fun (i,_) => c2 - i) (1,soV J a 1 o2) (kle rfl) trivial rfl (zhy 6) ⟨⟨Nat.le_refl _,hcp.1⟩,hso,by rw [hso,hc2],by rw [hso];exact hb1⟩ ?_
     rintro ⟨i,l⟩ ⟨⟨hi1,hi2⟩,hl1,hl2,hl3⟩ N hN
     obtain rfl:N = 6 :=hN
     have hi2:i ≤ c2 :=hi2
     conv => whnf
     by_cases hi3:i < c2
     ·have hi4:IntKind.i64.wrap (Int.ofNat i + 1) = Int.ofNat (i + 1) :=qa7 (m :=i + 1) (by omega)
      refine qaa (qa3 hi3) ?_
      conv => whnf
      refine qbj hE hS (A :=Nat × List Nat) [3] (fun x hx => hx) [0,1,2,3,8] (fun (j,_) => [(9,nv j)]) (fun (_,l) => [(3,.cells (tlA (nvs l)) c2 3)]) (fun _ => []) (fun (j,l2) => j ≤ i ∧ bub J l2 j = insN J o2 i ∧ l2.length = c2 ∧ ∀ x,x ∈ l2 → x < J.length) (fun (j,_) => j) (i,l) (kle rfl) trivial rfl (zhy 6) ⟨Nat.le_refl _,by rw [hl1];obtain ⟨i,rfl⟩ : ∃ k,i = k + 1 :=⟨i - 1,by omega⟩;rfl,hl2,hl3⟩ ?_
      rintro ⟨j,l2⟩ ⟨hj1,hj2,hj3,hj4⟩ N hN
      obtain rfl:N = 6 :=hN
      have hj1:j ≤ i :=hj1
      cases j with
      |zero =>
       have z0:decide (Int.ofNat 0 > 0) = false :=rfl
       conv => whnf
       repeat ((first|refine qao z0 ?_|refine qap z0 ?_|refine pkF z0 ?_|refine qac z0 ?_|refine qao (qay z0) ?_|refine qap (qay z0) ?_|refine pkF (qay z0) ?_|refine qac (qay z0) ?_|refine qad hS (by kernel_rfl) ?_);conv => whnf)
       refine .inl ?_
       conv => whnf
       exact ⟨(i + 1,l2),⟨⟨by omega,hi3⟩,(by rw [Nat.add_sub_cancel];exact hj2),hj3,hj4⟩,by show c2 - (i + 1) < c2 - i;omega,Nat.le_refl _,(zhy 6)⟩
      |succ j =>
       have z0:decide (Int.ofNat (j + 1) > 0) = true :=decide_eq_true (Int.ofNat_lt.2 (Nat.succ_pos j))
       have wj:IntKind.i64.wrap (Int.ofNat (j + 1) - 1) = Int.ofNat j :=by
        rw [show Int.ofNat (j + 1) - 1 = Int.ofNat j by show ((j + 1:Nat):Int) - 1 = (j:Int);omega]
        exact qa7 (m :=j) (by omega)
       have wq:(IntKind.i64.wrap (Int.ofNat (j + 1) - 1)).toNat = j :=by rw [wj];rfl
       have ia:inR (IntKind.i64.wrap (Int.ofNat (j + 1) - 1)) c2 = true :=by rw [wj];exact qav (by omega)
       have ib:inR (Int.ofNat (j + 1)) c2 = true :=qav (by omega)
       have da:decide (0 + (IntKind.i64.wrap (Int.ofNat (j + 1) - 1)).toNat * 1 < c2) = true :=decide_eq_true (by rw [wq];omega)
       have db:decide (0 + (j + 1) * 1 < c2) = true :=decide_eq_true (by omega)
       have ga :=qbi (l :=l2) (i :=j) (i' :=0 + (IntKind.i64.wrap (Int.ofNat (j + 1) - 1)).toNat * 1) (by omega) (by rw [wq];omega)
       have gb :=qbi (l :=l2) (i :=j + 1) (i' :=0 + (j + 1) * 1) (by omega) (by omega)
       have ba:Nat.ble (0 + (IntKind.i64.wrap (Int.ofNat (j + 1) - 1)).toNat * 1 + 1) c2 = true :=Nat.ble_eq_true_of_le (by rw [wq];omega)
       have bb:Nat.ble (0 + (j + 1) * 1 + 1) c2 = true :=Nat.ble_eq_true_of_le (by omega)
       have ma:l2.getD j 0 < J.length :=hj4 _ (by rw [qca (show j < l2.length by omega)];exact List.getElem_mem _)
       have mb:l2.getD (j + 1) 0 < J.length :=hj4 _ (by rw [qca (show j + 1 < l2.length by omega)];exact List.getElem_mem _)
       have T1:tset (pathOf (0 + (j + 1) * 1)) (tlA (nvs l2)) (nv (l2.getD j 0)) = tlA (nvs (l2.set (j + 1) (l2.getD j 0))) :=qeg (by omega) (by omega)
       have T2:tset (pathOf (0 + (IntKind.i64.wrap (Int.ofNat (j + 1) - 1)).toNat * 1)) (tlA (nvs (l2.set (j + 1) (l2.getD j 0)))) (nv (l2.getD (j + 1) 0)) = tlA (nvs (swp l2 j)) :=qeg (by rw [List.length_set];omega) (by rw [wq];omega)
       have g2 :=qbi (l :=l2.set (j + 1) (l2.getD j 0)) (i :=j) (i' :=0 + (IntKind.i64.wrap (Int.ofNat (j + 1) - 1)).toNat * 1) (by rw [List.length_set];omega) (by rw [wq];omega)
       conv => whnf
       repeat ((first|refine qaf (qba ga) ?_|refine qaf (qba gb) ?_|refine qai ‹_› ?_|refine qah ‹_› ?_|refine pkT ‹_› ?_|refine qaa ‹_› ?_|refine qai (qaj ‹_›) ?_|refine qah (qaj ‹_›) ?_|refine pkT (qaj ‹_›) ?_|refine qaa (qaj ‹_›) ?_|refine qad hS (by kernel_rfl) ?_);conv => whnf)
       refine qa6 hC (HFun.pureR (qgp mb ma) (ob1 rfl)) ?_
       conv => whnf
       by_cases c:dueL J (l2.getD (j + 1) 0) (l2.getD j 0)
       ·have cc:decide (ordI (gL J (l2.getD (j + 1) 0)).2.2 (gL J (l2.getD j 0)).2.2 < 0) = true :=by rw [qcj];exact decide_eq_true c
        repeat ((first|refine qaf (qba ga) ?_|refine qaf (qba gb) ?_|refine qai ‹_› ?_|refine qah ‹_› ?_|refine pkT ‹_› ?_|refine qaa ‹_› ?_|refine qai (qaj ‹_›) ?_|refine qah (qaj ‹_›) ?_|refine pkT (qaj ‹_›) ?_|refine qaa (qaj ‹_›) ?_|refine qad hS (by kernel_rfl) ?_);conv => whnf)
        refine qbc gb T1 ?_
        conv => whnf
        repeat ((first|refine qai ‹_› ?_|refine qah ‹_› ?_|refine pkT ‹_› ?_|refine qaa ‹_› ?_|refine qad hS (by kernel_rfl) ?_);conv => whnf)
        refine qbc g2 T2 ?_
        conv => whnf
        refine qad hS (by kernel_rfl) ?_
        conv => whnf
        exact ⟨(j,swp l2 j),⟨by omega,by rw [bub,if_pos c] at hj2;exact hj2,by rw [qgg];exact hj3,fun x hx => hj4 x (qgf (by omega) hx)⟩,by show j < j + 1;omega,Nat.le_refl _,(zhy 6)⟩
       ·have cc:decide (ordI (gL J (l2.getD (j + 1) 0)).2.2 (gL J (l2.getD j 0)).2.2 < 0) = false :=by rw [qcj];exact decide_eq_false c
        repeat ((first|refine qai ‹_› ?_|refine qah ‹_› ?_|refine pkT ‹_› ?_|refine qaa ‹_› ?_|refine qao ‹_› ?_|refine qap ‹_› ?_|refine pkF ‹_› ?_|refine qac ‹_› ?_|refine qai (qaj ‹_›) ?_|refine qah (qaj ‹_›) ?_|refine pkT (qaj ‹_›) ?_|refine qaa (qaj ‹_›) ?_|refine qad hS (by kernel_rfl) ?_);conv => whnf)
        refine .inl ?_
        conv => whnf
        exact ⟨(i + 1,l2),⟨⟨by omega,hi3⟩,(by rw [bub,if_neg c] at hj2;rw [Nat.add_sub_cancel];exact hj2),hj3,hj4⟩,by show c2 - (i + 1) < c2 - i;omega,Nat.le_refl _,(zhy 6)⟩
     ·refine qac (qbn hi3) ?_
      conv => whnf
      refine .inl ?_
      conv => whnf
      have hS1:l = srtJ J o2 :=by rw [hl1];unfold srtJ;congr 1;omega
      refine qam hE hS ?_
      conv => whnf
      refine qac (decide_eq_false (show ¬ (20:Int) < (c2:Int) by omega)) ?_
      conv => whnf
      have hS2:l = srtJ J (ownN P k2 P.length) :=by rw [hS1,ho2]
      have D0 :=dayF hW hJ h hS2 (t :=0) (by omega)
      have I1 :=(DayI.init W J P [k1,k2] a l).step (by omega) D0
      have ia0:inR (0:Int) c2 = true :=qav (i :=0) (by omega)
      have db0:decide (0 + 0 * 1 < c2) = true :=decide_eq_true (by omega)
      have g00 :=qbi (l :=l) (i :=0) (i' :=0 + 0 * 1) (by omega) (by omega)
      have iJ0:inR (Int.ofNat (l.getD 0 0)) J.length = true :=qav D0.it
      have gh0 :=qbf J (l.getD 0 0) D0.it
      refine qam hE hS ?_
      conv => whnf
      refine qaa (decide_eq_true (show (0:Int) < (c2:Int) by omega)) ?_
      conv => whnf
      have iw1:inR k2 W.length = true :=by
       rw [show k2 = Int.ofNat k2.toNat from (Int.toNat_of_nonneg D0.kw.1).symm]
       exact qav D0.kw.2
      have gw1 :=qb9 W k2.toNat D0.kw.2
      have im0:inR (Int.ofNat (l.getD 0 0)) (J.length:Int).toNat = true :=qav (by have :=D0.it;omega)
      have bm0:Nat.ble (0 + l.getD 0 0 * 1 + 1) (m + 1) = true :=Nat.ble_eq_true_of_le (by have :=D0.it;omega)
      have gd0 :=qd4 (m :=m + 1) (i :=l.getD 0 0) (i' :=0 + l.getD 0 0 * 1) (dyV W J P [k1,k2] a) (by have :=D0.it;omega) (by omega)
      have T0 :=qc5 (m :=m + 1) (i :=l.getD 0 0) (i' :=0 + l.getD 0 0 * 1) (dyV W J P [k1,k2] a) (Int.ofNat (dyN W J P (l.getD 0 0))) (by have :=D0.it;omega) (by omega)
      repeat ((first|refine qaf (qba g00) ?_|refine qaf (nthP gh0) ?_|refine qai ‹_› ?_|refine qah ‹_› ?_|refine pkT ‹_› ?_|refine qaa ‹_› ?_|refine qad hS (by kernel_rfl) ?_);conv => whnf)
      refine qak hC (D0.sum _ _ rfl) ?_
      conv => whnf
      repeat ((first|refine qaf (nthP gw1) ?_|refine qai ‹_› ?_|refine qah ‹_› ?_|refine pkT ‹_› ?_|refine qaa ‹_› ?_|refine qab hC (D0.up) ?_|refine qad hS (by kernel_rfl) ?_);conv => whnf)
      refine qbc gd0 T0 ?_
      conv => whnf
      refine qad hS (by kernel_rfl) ?_
      conv => whnf
      have h1w:IntKind.i64.wrap (0 + 1) = Int.ofNat 1 :=qa7 (m :=1) (by omega)
      refine qa4 hE hS (A :=Nat × List AV × (Nat → Int)) [0,4,9,12,13,83,92,93] (fun (t,X,_) => [(15,.lst X t (.ch 6)),(94,nv t)]) (fun (t,_,f) => [(4,.cells (tlA (dyl (m + 1) f)) (m + 1) 3),(6,.chain t 1 3)]) (fun _ => []) (fun (t,X,f) => 1 ≤ t ∧ DayI W J P [k1,k2] a l t X f) (fun (t,_,_) => l.length - t) (1,_,_) (Nat.zero_le _) rfl (zhg 19) ⟨Nat.le_refl _,I1⟩ ?_
      rintro ⟨t,X,f⟩ ⟨ht1,hI⟩ N hN
      obtain rfl:N = 19 :=hN
      have hI:DayI W J P [k1,k2] a l t X f :=hI
      have hXl :=hI.len
      conv => whnf
      by_cases ht:t < l.length
      ·have D :=dayF hW hJ h hS2 (t :=t) ht
       have DS:∀ n c,n = t + 1 → Pure prog 116 (wkl [.lst (X ++ [iv (gL J (l.getD t 0)).1]) n (.ch c)]) (nv (hrs J (l.take (t + 1))).sum) :=by rw [hI.xs];exact D.sum
       have I2 :=hI.step ht D
       have ia:inR (Int.ofNat t) c2 = true :=qav (by omega)
       have db:decide (0 + t * 1 < c2) = true :=decide_eq_true (by omega)
       have g0 :=qbi (l :=l) (i :=t) (i' :=0 + t * 1) ht (by omega)
       have iJ:inR (Int.ofNat (l.getD t 0)) J.length = true :=qav D.it
       have gh :=qbf J (l.getD t 0) D.it
       have im:inR (Int.ofNat (l.getD t 0)) (J.length:Int).toNat = true :=qav (by have :=D.it;omega)
       have bm:Nat.ble (0 + l.getD t 0 * 1 + 1) (m + 1) = true :=Nat.ble_eq_true_of_le (by have :=D.it;omega)
       have gd :=qd4 (m :=m + 1) (i :=l.getD t 0) (i' :=0 + l.getD t 0 * 1) f (by have :=D.it;omega) (by omega)
       have T :=qc5 (m :=m + 1) (i :=l.getD t 0) (i' :=0 + l.getD t 0 * 1) f (Int.ofNat (dyN W J P (l.getD t 0))) (by have :=D.it;omega) (by omega)
       have d1:decide ((t + (0 + 1)) * 8 ≤ 140737488355328) = true :=decide_eq_true (by omega)
       have d2:decide (t + (0 + 1) ≤ 9223372036854775807) = true :=decide_eq_true (by omega)
       have d3:decide (t = t) = true :=decide_eq_true rfl
       have d4:qcf X (t * 1) = true :=qfa (by omega)
       have ht2:IntKind.i64.wrap (Int.ofNat t + 1) = Int.ofNat (t + 1) :=qa7 (m :=t + 1) (by omega)
       repeat ((first|refine qaf (qba g0) ?_|refine qaf (nthP gh) ?_|refine qai (qa3 (show t < c2 by omega)) ?_|refine qah (qa3 (show t < c2 by omega)) ?_|refine pkT (qa3 (show t < c2 by omega)) ?_|refine qaa (qa3 (show t < c2 by omega)) ?_|refine qao (qa3 (show t < c2 by omega)) ?_|refine qap (qa3 (show t < c2 by omega)) ?_|refine pkF (qa3 (show t < c2 by omega)) ?_|refine qac (qa3 (show t < c2 by omega)) ?_|refine qai ‹_› ?_|refine qah ‹_› ?_|refine pkT ‹_› ?_|refine qaa ‹_› ?_|refine qad hS (by kernel_rfl) ?_);conv => whnf)
       refine qak hC (DS _ _ rfl) ?_
       conv => whnf
       repeat ((first|refine qaf (nthP gw1) ?_|refine qai ‹_› ?_|refine qah ‹_› ?_|refine pkT ‹_› ?_|refine qaa ‹_› ?_|refine qab hC (D.up) ?_|refine qad hS (by kernel_rfl) ?_);conv => whnf)
       refine qbc gd T ?_
       conv => whnf
       refine qad hS (by kernel_rfl) ?_
       conv => whnf
       exact ⟨(t + 1,_,_),⟨by omega,I2⟩,by show l.length - (t + 1) < l.length - t;omega,Nat.le_refl _,(zhg 19)⟩
      ·refine qac (qbn (show ¬ t < c2 by omega)) ?_
       conv => whnf
       refine .inl ?_
       conv => whnf
       have E1 :=hI.last (e :=1) (by have :=hI.le;omega) hS2 rfl
       rw [show P.length = m + 1 by omega] at E1
       have E2:tlA (nvs l) = tlA (nvs (soV J (1 :: a) 1 o2)) :=by rw [hS1];exact congrArg (fun z => tlA (nvs z)) (if_pos (List.mem_cons_self ..)).symm
       exact ⟨1 :: a,(qjp a ha 1 (by decide) hn).1,(qjp a ha 1 (by decide) hn).2,(zhg 6)⟩
   ·intro a ha hall N hN
    subst hN
    conv => whnf
    have a1:0 ∈ a :=hall 0 (kle rfl)
    have a2:1 ∈ a :=hall 1 (kle rfl)
    have E1:tlA (dyl (m + 1) (dyV W J P [k1,k2] a)) = tlA (dyl (m + 1) fun j => Int.ofNat (dyN W J P j)) :=by
     refine congrArg tlA (qf7 fun j hj => ?_)
     obtain ⟨r,q1,q2⟩ :=hRo.al j (by omega)
     refine qng ?_
     simp only [List.mem_cons,List.not_mem_nil,or_false] at q1
     rcases q1 with rfl | rfl
     ·exact ⟨0,a1,q2⟩
     ·exact ⟨1,a2,q2⟩
    have F1:tlA (nvs (soV J a 0 o1)) = tlA (nvs (srtJ J o1)) :=congrArg (fun z => tlA (nvs z)) (if_pos a1)
    have F2:tlA (nvs (soV J a 1 o2)) = tlA (nvs (srtJ J o2)) :=congrArg (fun z => tlA (nvs z)) (if_pos a2)
    exact ⟨rfl,(zhy 6)⟩
   ·intro N hN
    subst hN
    conv => whnf
    exact ⟨_,rfl,qnh hm (rfl:_ = AObj.cells (tlA (dyl (m + 1) fun j => Int.ofNat (dyN W J P j))) (m + 1) 3)⟩
  ·obtain rfl:N = 5 :=hN
   obtain ⟨o1,ho1⟩ : ∃ o,o = ownN P k1 P.length :=⟨_,rfl⟩
   have r1 :=hRo.ok (k1,f1,x1,c1) (by simp)
   obtain rfl:x1 = nvs o1 :=by rw [ho1];exact r1.xs
   have hc1:c1 = o1.length :=by rw [ho1];exact r1.cn
   obtain ⟨o2,ho2⟩ : ∃ o,o = ownN P k2 P.length :=⟨_,rfl⟩
   have r2 :=hRo.ok (k2,f2,x2,c2) (by simp)
   obtain rfl:x2 = nvs o2 :=by rw [ho2];exact r2.xs
   have hc2:c2 = o2.length :=by rw [ho2];exact r2.cn
   obtain ⟨o3,ho3⟩ : ∃ o,o = ownN P k3 P.length :=⟨_,rfl⟩
   have r3 :=hRo.ok (k3,f3,x3,c3) (by simp)
   obtain rfl:x3 = nvs o3 :=by rw [ho3];exact r3.xs
   have hc3:c3 = o3.length :=by rw [ho3];exact r3.cn
   obtain ⟨m,hm⟩ : ∃ m,J.length = m + 1 :=⟨J.length - 1,by have :=hJ.1.1;omega⟩
   refine qaz hE hS ?_
   conv => whnf
   refine qaa (decide_eq_true (Int.le_refl _)) ?_
   conv => whnf
   refine qaa (decide_eq_true (show (J.length:Int) ≤ 9223372036854775807 by omega)) ?_
   conv => whnf
   refine qaa (decide_eq_true (show 8 * (J.length:Int).toNat ≤ 2 * 140737488355328 by omega)) ?_
   conv => whnf
   refine qm3 (show (J.length:Int).toNat = m + 1 from hm) ?_
   refine qia ?_
   refine qmk (show m + 1 + 1 < 2 ^ 64 by omega) ?_
   intro t0 ht0
   have hd0:TOf (dyl (m + 1) (dyV W J P [k1,k2,k3] [])) t0 :=fun j => by
    rw [ht0,qez]
    by_cases e:j < m + 1
    ·rw [if_pos e,if_pos e,qnf];rfl
    ·rw [if_neg e,if_neg e]
   obtain rfl :=qk4 hd0
   conv => whnf
   refine qc3 hE hS (A :=List Nat) rfl rfl rfl 6 1 3 2 [(iv k1,.slc 2 0 c1 0),(iv k2,.slc 3 0 c2 0),(iv k3,.slc 4 0 c3 0)] (kle rfl) [0,4,9,12,83] (fun _ => []) (fun a => [(5,.cells (tlA (dyl (m + 1) (dyV W J P [k1,k2,k3] a))) (m + 1) 3),(6,.miter 1 3 a 3),(2,.cells (tlA (nvs (soV J a 0 o1))) c1 3),(3,.cells (tlA (nvs (soV J a 1 o2))) c2 3),(4,.cells (tlA (nvs (soV J a 2 o3))) c3 3)]) (fun a => a) (fun _ => 3) (fun a => a ∈ [[],[0],[1],[2],[0,1],[1,0],[0,2],[2,0],[1,2],[2,1],[0,1,2],[0,2,1],[1,0,2],[1,2,0],[2,0,1],[2,1,0]]) (fun a => 3 - a.length) [] [] [(5,.cells (tlA (dyl (m + 1) fun j => Int.ofNat (dyN W J P j))) (m + 1) 3),(6,.miter 1 3 [] 0),(2,.cells (tlA (nvs (srtJ J o1))) c1 3),(3,.cells (tlA (nvs (srtJ J o2))) c2 3),(4,.cells (tlA (nvs (srtJ J o3))) c3 3)] (Nat.zero_le _) ?_ (zhg 7) (by simp) ?_ ?_ ?_ ?_
   ·exact fun x _ => .inl (Nat.zero_le _)
   ·intro a ha
    exact ⟨rfl,rfl,rfl,by decide⟩
   ·intro a ha e k v hj hn N hN
    obtain rfl:N = 7 :=hN
    have hj2:e = 0 ∧ k = iv k1 ∧ v = .slc 2 0 c1 0 ∨ e = 1 ∧ k = iv k2 ∧ v = .slc 3 0 c2 0 ∨ e = 2 ∧ k = iv k3 ∧ v = .slc 4 0 c3 0 :=by
     match e,hj with
     | 0,h => cases h;exact .inl ⟨rfl,rfl,rfl⟩
     | 1,h => cases h;exact .inr (.inl ⟨rfl,rfl,rfl⟩)
     | 2,h => cases h;exact .inr (.inr (⟨rfl,rfl,rfl⟩))
     |(_+3),h => cases h
    rcases hj2 with ⟨rfl,rfl,rfl⟩ | ⟨rfl,rfl,rfl⟩ | ⟨rfl,rfl,rfl⟩
    ·have hcp:1 ≤ c1 ∧ c1 ≤ P.length :=r1.pos
     conv => whnf
     refine qar hC ?_
     conv => whnf
     refine qan hE hS ?_
     conv => whnf
     refine qar hC ?_
     conv => whnf
     refine qan hE hS ?_
     conv => whnf
     refine qam hE hS ?_
     conv => whnf
     refine qac (decide_eq_false (show ¬ (20:Int) ≤ (c1:Int) by omega)) ?_
     conv => whnf
     refine qar hC ?_
     conv => whnf
     refine qan hE hS ?_
     conv => whnf
     have hso:soV J a 0 o1 = o1 :=if_neg hn
     have hb1:∀ x,x ∈ o1 → x < J.length :=fun x hx => by rw [ho1] at hx;have :=(qcp.1 hx).1;omega
     have hi0:IntKind.i64.wrap (0 + 1) = Int.ofNat 1 :=qa7 (m :=1) (by omega)
     refine qbj hE hS (A :=Nat × List Nat) [2] (fun x hx => nomatch hx) [0,1,2,3] (fun (i,_) => [(8,nv i)]) (fun (_,l) => [(2,.cells (tlA (nvs l)) c1 3)]) (fun _ => []) (fun (i,l) => (1 ≤ i ∧ i ≤ c1) ∧ l = insN J o1 (i - 1) ∧ l.length = c1 ∧ ∀ x,x ∈ l → x < J.length) (fun (i,_) => c1 - i) (1,soV J a 0 o1) (kle rfl) trivial rfl (zhy 7) ⟨⟨Nat.le_refl _,hcp.1⟩,hso,by rw [hso,hc1],by rw [hso];exact hb1⟩ ?_
     rintro ⟨i,l⟩ ⟨⟨hi1,hi2⟩,hl1,hl2,hl3⟩ N hN
     obtain rfl:N = 7 :=hN
     have hi2:i ≤ c1 :=hi2
     conv => whnf
     by_cases hi3:i < c1
     ·have hi4:IntKind.i64.wrap (Int.ofNat i + 1) = Int.ofNat (i + 1) :=qa7 (m :=i + 1) (by omega)
      refine qaa (qa3 hi3) ?_
      conv => whnf
      refine qbj hE hS (A :=Nat × List Nat) [2] (fun x hx => hx) [0,1,2,3,8] (fun (j,_) => [(9,nv j)]) (fun (_,l) => [(2,.cells (tlA (nvs l)) c1 3)]) (fun _ => []) (fun (j,l2) => j ≤ i ∧ bub J l2 j = insN J o1 i ∧ l2.length = c1 ∧ ∀ x,x ∈ l2 → x < J.length) (fun (j,_) => j) (i,l) (kle rfl) trivial rfl (zhy 7) ⟨Nat.le_refl _,by rw [hl1];obtain ⟨i,rfl⟩ : ∃ k,i = k + 1 :=⟨i - 1,by omega⟩;rfl,hl2,hl3⟩ ?_
      rintro ⟨j,l2⟩ ⟨hj1,hj2,hj3,hj4⟩ N hN
      obtain rfl:N = 7 :=hN
      have hj1:j ≤ i :=hj1
      cases j with
      |zero =>
       have z0:decide (Int.ofNat 0 > 0) = false :=rfl
       conv => whnf
       repeat ((first|refine qao z0 ?_|refine qap z0 ?_|refine pkF z0 ?_|refine qac z0 ?_|refine qao (qay z0) ?_|refine qap (qay z0) ?_|refine pkF (qay z0) ?_|refine qac (qay z0) ?_|refine qad hS (by kernel_rfl) ?_);conv => whnf)
       refine .inl ?_
       conv => whnf
       exact ⟨(i + 1,l2),⟨⟨by omega,hi3⟩,(by rw [Nat.add_sub_cancel];exact hj2),hj3,hj4⟩,by show c1 - (i + 1) < c1 - i;omega,Nat.le_refl _,(zhy 7)⟩
      |succ j =>
       have z0:decide (Int.ofNat (j + 1) > 0) = true :=decide_eq_true (Int.ofNat_lt.2 (Nat.succ_pos j))
       have wj:IntKind.i64.wrap (Int.ofNat (j + 1) - 1) = Int.ofNat j :=by
        rw [show Int.ofNat (j + 1) - 1 = Int.ofNat j by show ((j + 1:Nat):Int) - 1 = (j:Int);omega]
        exact qa7 (m :=j) (by omega)
       have wq:(IntKind.i64.wrap (Int.ofNat (j + 1) - 1)).toNat = j :=by rw [wj];rfl
       have ia:inR (IntKind.i64.wrap (Int.ofNat (j + 1) - 1)) c1 = true :=by rw [wj];exact qav (by omega)
       have ib:inR (Int.ofNat (j + 1)) c1 = true :=qav (by omega)
       have da:decide (0 + (IntKind.i64.wrap (Int.ofNat (j + 1) - 1)).toNat * 1 < c1) = true :=decide_eq_true (by rw [wq];omega)
       have db:decide (0 + (j + 1) * 1 < c1) = true :=decide_eq_true (by omega)
       have ga :=qbi (l :=l2) (i :=j) (i' :=0 + (IntKind.i64.wrap (Int.ofNat (j + 1) - 1)).toNat * 1) (by omega) (by rw [wq];omega)
       have gb :=qbi (l :=l2) (i :=j + 1) (i' :=0 + (j + 1) * 1) (by omega) (by omega)
       have ba:Nat.ble (0 + (IntKind.i64.wrap (Int.ofNat (j + 1) - 1)).toNat * 1 + 1) c1 = true :=Nat.ble_eq_true_of_le (by rw [wq];omega)
       have bb:Nat.ble (0 + (j + 1) * 1 + 1) c1 = true :=Nat.ble_eq_true_of_le (by omega)
       have ma:l2.getD j 0 < J.length :=hj4 _ (by rw [qca (show j < l2.length by omega)];exact List.getElem_mem _)
       have mb:l2.getD (j + 1) 0 < J.length :=hj4 _ (by rw [qca (show j + 1 < l2.length by omega)];exact List.getElem_mem _)
       have T1:tset (pathOf (0 + (j + 1) * 1)) (tlA (nvs l2)) (nv (l2.getD j 0)) = tlA (nvs (l2.set (j + 1) (l2.getD j 0))) :=qeg (by omega) (by omega)
       have T2:tset (pathOf (0 + (IntKind.i64.wrap (Int.ofNat (j + 1) - 1)).toNat * 1)) (tlA (nvs (l2.set (j + 1) (l2.getD j 0)))) (nv (l2.getD (j + 1) 0)) = tlA (nvs (swp l2 j)) :=qeg (by rw [List.length_set];omega) (by rw [wq];omega)
       have g2 :=qbi (l :=l2.set (j + 1) (l2.getD j 0)) (i :=j) (i' :=0 + (IntKind.i64.wrap (Int.ofNat (j + 1) - 1)).toNat * 1) (by rw [List.length_set];omega) (by rw [wq];omega)
       conv => whnf
       repeat ((first|refine qaf (qba ga) ?_|refine qaf (qba gb) ?_|refine qai ‹_› ?_|refine qah ‹_› ?_|refine pkT ‹_› ?_|refine qaa ‹_› ?_|refine qai (qaj ‹_›) ?_|refine qah (qaj ‹_›) ?_|refine pkT (qaj ‹_›) ?_|refine qaa (qaj ‹_›) ?_|refine qad hS (by kernel_rfl) ?_);conv => whnf)
       refine qa6 hC (HFun.pureR (qgp mb ma) (ob1 rfl)) ?_
       conv => whnf
       by_cases c:dueL J (l2.getD (j + 1) 0) (l2.getD j 0)
       ·have cc:decide (ordI (gL J (l2.getD (j + 1) 0)).2.2 (gL J (l2.getD j 0)).2.2 < 0) = true :=by rw [qcj];exact decide_eq_true c
        repeat ((first|refine qaf (qba ga) ?_|refine qaf (qba gb) ?_|refine qai ‹_› ?_|refine qah ‹_› ?_|refine pkT ‹_› ?_|refine qaa ‹_› ?_|refine qai (qaj ‹_›) ?_|refine qah (qaj ‹_›) ?_|refine pkT (qaj ‹_›) ?_|refine qaa (qaj ‹_›) ?_|refine qad hS (by kernel_rfl) ?_);conv => whnf)
        refine qbc gb T1 ?_
        conv => whnf
        repeat ((first|refine qai ‹_› ?_|refine qah ‹_› ?_|refine pkT ‹_› ?_|refine qaa ‹_› ?_|refine qad hS (by kernel_rfl) ?_);conv => whnf)
        refine qbc g2 T2 ?_
        conv => whnf
        refine qad hS (by kernel_rfl) ?_
        conv => whnf
        exact ⟨(j,swp l2 j),⟨by omega,by rw [bub,if_pos c] at hj2;exact hj2,by rw [qgg];exact hj3,fun x hx => hj4 x (qgf (by omega) hx)⟩,by show j < j + 1;omega,Nat.le_refl _,(zhy 7)⟩
       ·have cc:decide (ordI (gL J (l2.getD (j + 1) 0)).2.2 (gL J (l2.getD j 0)).2.2 < 0) = false :=by rw [qcj];exact decide_eq_false c
        repeat ((first|refine qai ‹_› ?_|refine qah ‹_› ?_|refine pkT ‹_› ?_|refine qaa ‹_› ?_|refine qao ‹_› ?_|refine qap ‹_› ?_|refine pkF ‹_› ?_|refine qac ‹_› ?_|refine qai (qaj ‹_›) ?_|refine qah (qaj ‹_›) ?_|refine pkT (qaj ‹_›) ?_|refine qaa (qaj ‹_›) ?_|refine qad hS (by kernel_rfl) ?_);conv => whnf)
        refine .inl ?_
        conv => whnf
        exact ⟨(i + 1,l2),⟨⟨by omega,hi3⟩,(by rw [bub,if_neg c] at hj2;rw [Nat.add_sub_cancel];exact hj2),hj3,hj4⟩,by show c1 - (i + 1) < c1 - i;omega,Nat.le_refl _,(zhy 7)⟩
     ·refine qac (qbn hi3) ?_
      conv => whnf
      refine .inl ?_
      conv => whnf
      have hS1:l = srtJ J o1 :=by rw [hl1];unfold srtJ;congr 1;omega
      refine qam hE hS ?_
      conv => whnf
      refine qac (decide_eq_false (show ¬ (20:Int) < (c1:Int) by omega)) ?_
      conv => whnf
      have hS2:l = srtJ J (ownN P k1 P.length) :=by rw [hS1,ho1]
      have D0 :=dayF hW hJ h hS2 (t :=0) (by omega)
      have I1 :=(DayI.init W J P [k1,k2,k3] a l).step (by omega) D0
      have ia0:inR (0:Int) c1 = true :=qav (i :=0) (by omega)
      have db0:decide (0 + 0 * 1 < c1) = true :=decide_eq_true (by omega)
      have g00 :=qbi (l :=l) (i :=0) (i' :=0 + 0 * 1) (by omega) (by omega)
      have iJ0:inR (Int.ofNat (l.getD 0 0)) J.length = true :=qav D0.it
      have gh0 :=qbf J (l.getD 0 0) D0.it
      refine qam hE hS ?_
      conv => whnf
      refine qaa (decide_eq_true (show (0:Int) < (c1:Int) by omega)) ?_
      conv => whnf
      have iw1:inR k1 W.length = true :=by
       rw [show k1 = Int.ofNat k1.toNat from (Int.toNat_of_nonneg D0.kw.1).symm]
       exact qav D0.kw.2
      have gw1 :=qb9 W k1.toNat D0.kw.2
      have im0:inR (Int.ofNat (l.getD 0 0)) (J.length:Int).toNat = true :=qav (by have :=D0.it;omega)
      have bm0:Nat.ble (0 + l.getD 0 0 * 1 + 1) (m + 1) = true :=Nat.ble_eq_true_of_le (by have :=D0.it;omega)
      have gd0 :=qd4 (m :=m + 1) (i :=l.getD 0 0) (i' :=0 + l.getD 0 0 * 1) (dyV W J P [k1,k2,k3] a) (by have :=D0.it;omega) (by omega)
      have T0 :=qc5 (m :=m + 1) (i :=l.getD 0 0) (i' :=0 + l.getD 0 0 * 1) (dyV W J P [k1,k2,k3] a) (Int.ofNat (dyN W J P (l.getD 0 0))) (by have :=D0.it;omega) (by omega)
      repeat ((first|refine qaf (qba g00) ?_|refine qaf (nthP gh0) ?_|refine qai ‹_› ?_|refine qah ‹_› ?_|refine pkT ‹_› ?_|refine qaa ‹_› ?_|refine qad hS (by kernel_rfl) ?_);conv => whnf)
      refine qak hC (D0.sum _ _ rfl) ?_
      conv => whnf
      repeat ((first|refine qaf (nthP gw1) ?_|refine qai ‹_› ?_|refine qah ‹_› ?_|refine pkT ‹_› ?_|refine qaa ‹_› ?_|refine qab hC (D0.up) ?_|refine qad hS (by kernel_rfl) ?_);conv => whnf)
      refine qbc gd0 T0 ?_
      conv => whnf
      refine qad hS (by kernel_rfl) ?_
      conv => whnf
      have h1w:IntKind.i64.wrap (0 + 1) = Int.ofNat 1 :=qa7 (m :=1) (by omega)
      refine qa4 hE hS (A :=Nat × List AV × (Nat → Int)) [0,4,9,12,13,83,92,93] (fun (t,X,_) => [(15,.lst X t (.ch 7)),(94,nv t)]) (fun (t,_,f) => [(5,.cells (tlA (dyl (m + 1) f)) (m + 1) 3),(7,.chain t 1 3)]) (fun _ => []) (fun (t,X,f) => 1 ≤ t ∧ DayI W J P [k1,k2,k3] a l t X f) (fun (t,_,_) => l.length - t) (1,_,_) (Nat.zero_le _) rfl (zhg 20) ⟨Nat.le_refl _,I1⟩ ?_
      rintro ⟨t,X,f⟩ ⟨ht1,hI⟩ N hN
      obtain rfl:N = 20 :=hN
      have hI:DayI W J P [k1,k2,k3] a l t X f :=hI
      have hXl :=hI.len
      conv => whnf
      by_cases ht:t < l.length
      ·have D :=dayF hW hJ h hS2 (t :=t) ht
       have DS:∀ n c,n = t + 1 → Pure prog 116 (wkl [.lst (X ++ [iv (gL J (l.getD t 0)).1]) n (.ch c)]) (nv (hrs J (l.take (t + 1))).sum) :=by rw [hI.xs];exact D.sum
       have I2 :=hI.step ht D
       have ia:inR (Int.ofNat t) c1 = true :=qav (by omega)
       have db:decide (0 + t * 1 < c1) = true :=decide_eq_true (by omega)
       have g0 :=qbi (l :=l) (i :=t) (i' :=0 + t * 1) ht (by omega)
       have iJ:inR (Int.ofNat (l.getD t 0)) J.length = true :=qav D.it
       have gh :=qbf J (l.getD t 0) D.it
       have im:inR (Int.ofNat (l.getD t 0)) (J.length:Int).toNat = true :=qav (by have :=D.it;omega)
       have bm:Nat.ble (0 + l.getD t 0 * 1 + 1) (m + 1) = true :=Nat.ble_eq_true_of_le (by have :=D.it;omega)
       have gd :=qd4 (m :=m + 1) (i :=l.getD t 0) (i' :=0 + l.getD t 0 * 1) f (by have :=D.it;omega) (by omega)
       have T :=qc5 (m :=m + 1) (i :=l.getD t 0) (i' :=0 + l.getD t 0 * 1) f (Int.ofNat (dyN W J P (l.getD t 0))) (by have :=D.it;omega) (by omega)
       have d1:decide ((t + (0 + 1)) * 8 ≤ 140737488355328) = true :=decide_eq_true (by omega)
       have d2:decide (t + (0 + 1) ≤ 9223372036854775807) = true :=decide_eq_true (by omega)
       have d3:decide (t = t) = true :=decide_eq_true rfl
       have d4:qcf X (t * 1) = true :=qfa (by omega)
       have ht2:IntKind.i64.wrap (Int.ofNat t + 1) = Int.ofNat (t + 1) :=qa7 (m :=t + 1) (by omega)
       repeat ((first|refine qaf (qba g0) ?_|refine qaf (nthP gh) ?_|refine qai (qa3 (show t < c1 by omega)) ?_|refine qah (qa3 (show t < c1 by omega)) ?_|refine pkT (qa3 (show t < c1 by omega)) ?_|refine qaa (qa3 (show t < c1 by omega)) ?_|refine qao (qa3 (show t < c1 by omega)) ?_|refine qap (qa3 (show t < c1 by omega)) ?_|refine pkF (qa3 (show t < c1 by omega)) ?_|refine qac (qa3 (show t < c1 by omega)) ?_|refine qai ‹_› ?_|refine qah ‹_› ?_|refine pkT ‹_› ?_|refine qaa ‹_› ?_|refine qad hS (by kernel_rfl) ?_);conv => whnf)
       refine qak hC (DS _ _ rfl) ?_
       conv => whnf
       repeat ((first|refine qaf (nthP gw1) ?_|refine qai ‹_› ?_|refine qah ‹_› ?_|refine pkT ‹_› ?_|refine qaa ‹_› ?_|refine qab hC (D.up) ?_|refine qad hS (by kernel_rfl) ?_);conv => whnf)
       refine qbc gd T ?_
       conv => whnf
       refine qad hS (by kernel_rfl) ?_
       conv => whnf
       exact ⟨(t + 1,_,_),⟨by omega,I2⟩,by show l.length - (t + 1) < l.length - t;omega,Nat.le_refl _,(zhg 20)⟩
      ·refine qac (qbn (show ¬ t < c1 by omega)) ?_
       conv => whnf
       refine .inl ?_
       conv => whnf
       have E1 :=hI.last (e :=0) (by have :=hI.le;omega) hS2 rfl
       rw [show P.length = m + 1 by omega] at E1
       have E2:tlA (nvs l) = tlA (nvs (soV J (0 :: a) 0 o1)) :=by rw [hS1];exact congrArg (fun z => tlA (nvs z)) (if_pos (List.mem_cons_self ..)).symm
       exact ⟨0 :: a,(qgi a ha 0 (by decide) hn).1,(qgi a ha 0 (by decide) hn).2,(zhg 7)⟩
    ·have hcp:1 ≤ c2 ∧ c2 ≤ P.length :=r2.pos
     conv => whnf
     refine qar hC ?_
     conv => whnf
     refine qan hE hS ?_
     conv => whnf
     refine qar hC ?_
     conv => whnf
     refine qan hE hS ?_
     conv => whnf
     refine qam hE hS ?_
     conv => whnf
     refine qac (decide_eq_false (show ¬ (20:Int) ≤ (c2:Int) by omega)) ?_
     conv => whnf
     refine qar hC ?_
     conv => whnf
     refine qan hE hS ?_
     conv => whnf
     have hso:soV J a 1 o2 = o2 :=if_neg hn
     have hb1:∀ x,x ∈ o2 → x < J.length :=fun x hx => by rw [ho2] at hx;have :=(qcp.1 hx).1;omega
     have hi0:IntKind.i64.wrap (0 + 1) = Int.ofNat 1 :=qa7 (m :=1) (by omega)
     refine qbj hE hS (A :=Nat × List Nat) [3] (fun x hx => nomatch hx) [0,1,2,3] (fun (i,_) => [(8,nv i)]) (fun (_,l) => [(3,.cells (tlA (nvs l)) c2 3)]) (fun _ => []) (fun (i,l) => (1 ≤ i ∧ i ≤ c2) ∧ l = insN J o2 (i - 1) ∧ l.length = c2 ∧ ∀ x,x ∈ l → x < J.length) (fun (i,_) => c2 - i) (1,soV J a 1 o2) (kle rfl) trivial rfl (zhy 7) ⟨⟨Nat.le_refl _,hcp.1⟩,hso,by rw [hso,hc2],by rw [hso];exact hb1⟩ ?_
     rintro ⟨i,l⟩ ⟨⟨hi1,hi2⟩,hl1,hl2,hl3⟩ N hN
     obtain rfl:N = 7 :=hN
     have hi2:i ≤ c2 :=hi2
     conv => whnf
     by_cases hi3:i < c2
     ·have hi4:IntKind.i64.wrap (Int.ofNat i + 1) = Int.ofNat (i + 1) :=qa7 (m :=i + 1) (by omega)
      refine qaa (qa3 hi3) ?_
      conv => whnf
      refine qbj hE hS (A :=Nat × List Nat) [3] (fun x hx => hx) [0,1,2,3,8] (fun (j,_) => [(9,nv j)]) (fun (_,l) => [(3,.cells (tlA (nvs l)) c2 3)]) (fun _ => []) (fun (j,l2) => j ≤ i ∧ bub J l2 j = insN J o2 i ∧ l2.length = c2 ∧ ∀ x,x ∈ l2 → x < J.length) (fun (j,_) => j) (i,l) (kle rfl) trivial rfl (zhy 7) ⟨Nat.le_refl _,by rw [hl1];obtain ⟨i,rfl⟩ : ∃ k,i = k + 1 :=⟨i - 1,by omega⟩;rfl,hl2,hl3⟩ ?_
      rintro ⟨j,l2⟩ ⟨hj1,hj2,hj3,hj4⟩ N hN
      obtain rfl:N = 7 :=hN
      have hj1:j ≤ i :=hj1
      cases j with
      |zero =>
       have z0:decide (Int.ofNat 0 > 0) = false :=rfl
       conv => whnf
       repeat ((first|refine qao z0 ?_|refine qap z0 ?_|refine pkF z0 ?_|refine qac z0 ?_|refine qao (qay z0) ?_|refine qap (qay z0) ?_|refine pkF (qay z0) ?_|refine qac (qay z0) ?_|refine qad hS (by kernel_rfl) ?_);conv => whnf)
       refine .inl ?_
       conv => whnf
       exact ⟨(i + 1,l2),⟨⟨by omega,hi3⟩,(by rw [Nat.add_sub_cancel];exact hj2),hj3,hj4⟩,by show c2 - (i + 1) < c2 - i;omega,Nat.le_refl _,(zhy 7)⟩
      |succ j =>
       have z0:decide (Int.ofNat (j + 1) > 0) = true :=decide_eq_true (Int.ofNat_lt.2 (Nat.succ_pos j))
       have wj:IntKind.i64.wrap (Int.ofNat (j + 1) - 1) = Int.ofNat j :=by
        rw [show Int.ofNat (j + 1) - 1 = Int.ofNat j by show ((j + 1:Nat):Int) - 1 = (j:Int);omega]
        exact qa7 (m :=j) (by omega)
       have wq:(IntKind.i64.wrap (Int.ofNat (j + 1) - 1)).toNat = j :=by rw [wj];rfl
       have ia:inR (IntKind.i64.wrap (Int.ofNat (j + 1) - 1)) c2 = true :=by rw [wj];exact qav (by omega)
       have ib:inR (Int.ofNat (j + 1)) c2 = true :=qav (by omega)
       have da:decide (0 + (IntKind.i64.wrap (Int.ofNat (j + 1) - 1)).toNat * 1 < c2) = true :=decide_eq_true (by rw [wq];omega)
       have db:decide (0 + (j + 1) * 1 < c2) = true :=decide_eq_true (by omega)
       have ga :=qbi (l :=l2) (i :=j) (i' :=0 + (IntKind.i64.wrap (Int.ofNat (j + 1) - 1)).toNat * 1) (by omega) (by rw [wq];omega)
       have gb :=qbi (l :=l2) (i :=j + 1) (i' :=0 + (j + 1) * 1) (by omega) (by omega)
       have ba:Nat.ble (0 + (IntKind.i64.wrap (Int.ofNat (j + 1) - 1)).toNat * 1 + 1) c2 = true :=Nat.ble_eq_true_of_le (by rw [wq];omega)
       have bb:Nat.ble (0 + (j + 1) * 1 + 1) c2 = true :=Nat.ble_eq_true_of_le (by omega)
       have ma:l2.getD j 0 < J.length :=hj4 _ (by rw [qca (show j < l2.length by omega)];exact List.getElem_mem _)
       have mb:l2.getD (j + 1) 0 < J.length :=hj4 _ (by rw [qca (show j + 1 < l2.length by omega)];exact List.getElem_mem _)
       have T1:tset (pathOf (0 + (j + 1) * 1)) (tlA (nvs l2)) (nv (l2.getD j 0)) = tlA (nvs (l2.set (j + 1) (l2.getD j 0))) :=qeg (by omega) (by omega)
       have T2:tset (pathOf (0 + (IntKind.i64.wrap (Int.ofNat (j + 1) - 1)).toNat * 1)) (tlA (nvs (l2.set (j + 1) (l2.getD j 0)))) (nv (l2.getD (j + 1) 0)) = tlA (nvs (swp l2 j)) :=qeg (by rw [List.length_set];omega) (by rw [wq];omega)
       have g2 :=qbi (l :=l2.set (j + 1) (l2.getD j 0)) (i :=j) (i' :=0 + (IntKind.i64.wrap (Int.ofNat (j + 1) - 1)).toNat * 1) (by rw [List.length_set];omega) (by rw [wq];omega)
       conv => whnf
       repeat ((first|refine qaf (qba ga) ?_|refine qaf (qba gb) ?_|refine qai ‹_› ?_|refine qah ‹_› ?_|refine pkT ‹_› ?_|refine qaa ‹_› ?_|refine qai (qaj ‹_›) ?_|refine qah (qaj ‹_›) ?_|refine pkT (qaj ‹_›) ?_|refine qaa (qaj ‹_›) ?_|refine qad hS (by kernel_rfl) ?_);conv => whnf)
       refine qa6 hC (HFun.pureR (qgp mb ma) (ob1 rfl)) ?_
       conv => whnf
       by_cases c:dueL J (l2.getD (j + 1) 0) (l2.getD j 0)
       ·have cc:decide (ordI (gL J (l2.getD (j + 1) 0)).2.2 (gL J (l2.getD j 0)).2.2 < 0) = true :=by rw [qcj];exact decide_eq_true c
        repeat ((first|refine qaf (qba ga) ?_|refine qaf (qba gb) ?_|refine qai ‹_› ?_|refine qah ‹_› ?_|refine pkT ‹_› ?_|refine qaa ‹_› ?_|refine qai (qaj ‹_›) ?_|refine qah (qaj ‹_›) ?_|refine pkT (qaj ‹_›) ?_|refine qaa (qaj ‹_›) ?_|refine qad hS (by kernel_rfl) ?_);conv => whnf)
        refine qbc gb T1 ?_
        conv => whnf
        repeat ((first|refine qai ‹_› ?_|refine qah ‹_› ?_|refine pkT ‹_› ?_|refine qaa ‹_› ?_|refine qad hS (by kernel_rfl) ?_);conv => whnf)
        refine qbc g2 T2 ?_
        conv => whnf
        refine qad hS (by kernel_rfl) ?_
        conv => whnf
        exact ⟨(j,swp l2 j),⟨by omega,by rw [bub,if_pos c] at hj2;exact hj2,by rw [qgg];exact hj3,fun x hx => hj4 x (qgf (by omega) hx)⟩,by show j < j + 1;omega,Nat.le_refl _,(zhy 7)⟩
       ·have cc:decide (ordI (gL J (l2.getD (j + 1) 0)).2.2 (gL J (l2.getD j 0)).2.2 < 0) = false :=by rw [qcj];exact decide_eq_false c
        repeat ((first|refine qai ‹_› ?_|refine qah ‹_› ?_|refine pkT ‹_› ?_|refine qaa ‹_› ?_|refine qao ‹_› ?_|refine qap ‹_› ?_|refine pkF ‹_› ?_|refine qac ‹_› ?_|refine qai (qaj ‹_›) ?_|refine qah (qaj ‹_›) ?_|refine pkT (qaj ‹_›) ?_|refine qaa (qaj ‹_›) ?_|refine qad hS (by kernel_rfl) ?_);conv => whnf)
        refine .inl ?_
        conv => whnf
        exact ⟨(i + 1,l2),⟨⟨by omega,hi3⟩,(by rw [bub,if_neg c] at hj2;rw [Nat.add_sub_cancel];exact hj2),hj3,hj4⟩,by show c2 - (i + 1) < c2 - i;omega,Nat.le_refl _,(zhy 7)⟩
     ·refine qac (qbn hi3) ?_
      conv => whnf
      refine .inl ?_
      conv => whnf
      have hS1:l = srtJ J o2 :=by rw [hl1];unfold srtJ;congr 1;omega
      refine qam hE hS ?_
      conv => whnf
      refine qac (decide_eq_false (show ¬ (20:Int) < (c2:Int) by omega)) ?_
      conv => whnf
      have hS2:l = srtJ J (ownN P k2 P.length) :=by rw [hS1,ho2]
      have D0 :=dayF hW hJ h hS2 (t :=0) (by omega)
      have I1 :=(DayI.init W J P [k1,k2,k3] a l).step (by omega) D0
      have ia0:inR (0:Int) c2 = true :=qav (i :=0) (by omega)
      have db0:decide (0 + 0 * 1 < c2) = true :=decide_eq_true (by omega)
      have g00 :=qbi (l :=l) (i :=0) (i' :=0 + 0 * 1) (by omega) (by omega)
      have iJ0:inR (Int.ofNat (l.getD 0 0)) J.length = true :=qav D0.it
      have gh0 :=qbf J (l.getD 0 0) D0.it
      refine qam hE hS ?_
      conv => whnf
      refine qaa (decide_eq_true (show (0:Int) < (c2:Int) by omega)) ?_
      conv => whnf
      have iw1:inR k2 W.length = true :=by
       rw [show k2 = Int.ofNat k2.toNat from (Int.toNat_of_nonneg D0.kw.1).symm]
       exact qav D0.kw.2
      have gw1 :=qb9 W k2.toNat D0.kw.2
      have im0:inR (Int.ofNat (l.getD 0 0)) (J.length:Int).toNat = true :=qav (by have :=D0.it;omega)
      have bm0:Nat.ble (0 + l.getD 0 0 * 1 + 1) (m + 1) = true :=Nat.ble_eq_true_of_le (by have :=D0.it;omega)
      have gd0 :=qd4 (m :=m + 1) (i :=l.getD 0 0) (i' :=0 + l.getD 0 0 * 1) (dyV W J P [k1,k2,k3] a) (by have :=D0.it;omega) (by omega)
      have T0 :=qc5 (m :=m + 1) (i :=l.getD 0 0) (i' :=0 + l.getD 0 0 * 1) (dyV W J P [k1,k2,k3] a) (Int.ofNat (dyN W J P (l.getD 0 0))) (by have :=D0.it;omega) (by omega)
      repeat ((first|refine qaf (qba g00) ?_|refine qaf (nthP gh0) ?_|refine qai ‹_› ?_|refine qah ‹_› ?_|refine pkT ‹_› ?_|refine qaa ‹_› ?_|refine qad hS (by kernel_rfl) ?_);conv => whnf)
      refine qak hC (D0.sum _ _ rfl) ?_
      conv => whnf
      repeat ((first|refine qaf (nthP gw1) ?_|refine qai ‹_› ?_|refine qah ‹_› ?_|refine pkT ‹_› ?_|refine qaa ‹_› ?_|refine qab hC (D0.up) ?_|refine qad hS (by kernel_rfl) ?_);conv => whnf)
      refine qbc gd0 T0 ?_
      conv => whnf
      refine qad hS (by kernel_rfl) ?_
      conv => whnf
      have h1w:IntKind.i64.wrap (0 + 1) = Int.ofNat 1 :=qa7 (m :=1) (by omega)
      refine qa4 hE hS (A :=Nat × List AV × (Nat → Int)) [0,4,9,12,13,83,92,93] (fun (t,X,_) => [(15,.lst X t (.ch 7)),(94,nv t)]) (fun (t,_,f) => [(5,.cells (tlA (dyl (m + 1) f)) (m + 1) 3),(7,.chain t 1 3)]) (fun _ => []) (fun (t,X,f) => 1 ≤ t ∧ DayI W J P [k1,k2,k3] a l t X f) (fun (t,_,_) => l.length - t) (1,_,_) (Nat.zero_le _) rfl (zhg 20) ⟨Nat.le_refl _,I1⟩ ?_
      rintro ⟨t,X,f⟩ ⟨ht1,hI⟩ N hN
      obtain rfl:N = 20 :=hN
      have hI:DayI W J P [k1,k2,k3] a l t X f :=hI
      have hXl :=hI.len
      conv => whnf
      by_cases ht:t < l.length
      ·have D :=dayF hW hJ h hS2 (t :=t) ht
       have DS:∀ n c,n = t + 1 → Pure prog 116 (wkl [.lst (X ++ [iv (gL J (l.getD t 0)).1]) n (.ch c)]) (nv (hrs J (l.take (t + 1))).sum) :=by rw [hI.xs];exact D.sum
       have I2 :=hI.step ht D
       have ia:inR (Int.ofNat t) c2 = true :=qav (by omega)
       have db:decide (0 + t * 1 < c2) = true :=decide_eq_true (by omega)
       have g0 :=qbi (l :=l) (i :=t) (i' :=0 + t * 1) ht (by omega)
       have iJ:inR (Int.ofNat (l.getD t 0)) J.length = true :=qav D.it
       have gh :=qbf J (l.getD t 0) D.it
       have im:inR (Int.ofNat (l.getD t 0)) (J.length:Int).toNat = true :=qav (by have :=D.it;omega)
       have bm:Nat.ble (0 + l.getD t 0 * 1 + 1) (m + 1) = true :=Nat.ble_eq_true_of_le (by have :=D.it;omega)
       have gd :=qd4 (m :=m + 1) (i :=l.getD t 0) (i' :=0 + l.getD t 0 * 1) f (by have :=D.it;omega) (by omega)
       have T :=qc5 (m :=m + 1) (i :=l.getD t 0) (i' :=0 + l.getD t 0 * 1) f (Int.ofNat (dyN W J P (l.getD t 0))) (by have :=D.it;omega) (by omega)
       have d1:decide ((t + (0 + 1)) * 8 ≤ 140737488355328) = true :=decide_eq_true (by omega)
       have d2:decide (t + (0 + 1) ≤ 9223372036854775807) = true :=decide_eq_true (by omega)
       have d3:decide (t = t) = true :=decide_eq_true rfl
       have d4:qcf X (t * 1) = true :=qfa (by omega)
       have ht2:IntKind.i64.wrap (Int.ofNat t + 1) = Int.ofNat (t + 1) :=qa7 (m :=t + 1) (by omega)
       repeat ((first|refine qaf (qba g0) ?_|refine qaf (nthP gh) ?_|refine qai (qa3 (show t < c2 by omega)) ?_|refine qah (qa3 (show t < c2 by omega)) ?_|refine pkT (qa3 (show t < c2 by omega)) ?_|refine qaa (qa3 (show t < c2 by omega)) ?_|refine qao (qa3 (show t < c2 by omega)) ?_|refine qap (qa3 (show t < c2 by omega)) ?_|refine pkF (qa3 (show t < c2 by omega)) ?_|refine qac (qa3 (show t < c2 by omega)) ?_|refine qai ‹_› ?_|refine qah ‹_› ?_|refine pkT ‹_› ?_|refine qaa ‹_› ?_|refine qad hS (by kernel_rfl) ?_);conv => whnf)
       refine qak hC (DS _ _ rfl) ?_
       conv => whnf
       repeat ((first|refine qaf (nthP gw1) ?_|refine qai ‹_› ?_|refine qah ‹_› ?_|refine pkT ‹_› ?_|refine qaa ‹_› ?_|refine qab hC (D.up) ?_|refine qad hS (by kernel_rfl) ?_);conv => whnf)
       refine qbc gd T ?_
       conv => whnf
       refine qad hS (by kernel_rfl) ?_
       conv => whnf
       exact ⟨(t + 1,_,_),⟨by omega,I2⟩,by show l.length - (t + 1) < l.length - t;omega,Nat.le_refl _,(zhg 20)⟩
      ·refine qac (qbn (show ¬ t < c2 by omega)) ?_
       conv => whnf
       refine .inl ?_
       conv => whnf
       have E1 :=hI.last (e :=1) (by have :=hI.le;omega) hS2 rfl
       rw [show P.length = m + 1 by omega] at E1
       have E2:tlA (nvs l) = tlA (nvs (soV J (1 :: a) 1 o2)) :=by rw [hS1];exact congrArg (fun z => tlA (nvs z)) (if_pos (List.mem_cons_self ..)).symm
       exact ⟨1 :: a,(qgi a ha 1 (by decide) hn).1,(qgi a ha 1 (by decide) hn).2,(zhg 7)⟩
    ·have hcp:1 ≤ c3 ∧ c3 ≤ P.length :=r3.pos
     conv => whnf
     refine qar hC ?_
     conv => whnf
     refine qan hE hS ?_
     conv => whnf
     refine qar hC ?_
     conv => whnf
     refine qan hE hS ?_
     conv => whnf
     refine qam hE hS ?_
     conv => whnf
     refine qac (decide_eq_false (show ¬ (20:Int) ≤ (c3:Int) by omega)) ?_
     conv => whnf
     refine qar hC ?_
     conv => whnf
     refine qan hE hS ?_
     conv => whnf
     have hso:soV J a 2 o3 = o3 :=if_neg hn
     have hb1:∀ x,x ∈ o3 → x < J.length :=fun x hx => by rw [ho3] at hx;have :=(qcp.1 hx).1;omega
     have hi0:IntKind.i64.wrap (0 + 1) = Int.ofNat 1 :=qa7 (m :=1) (by omega)
     refine qbj hE hS (A :=Nat × List Nat) [4] (fun x hx => nomatch hx) [0,1,2,3] (fun (i,_) => [(8,nv i)]) (fun (_,l) => [(4,.cells (tlA (nvs l)) c3 3)]) (fun _ => []) (fun (i,l) => (1 ≤ i ∧ i ≤ c3) ∧ l = insN J o3 (i - 1) ∧ l.length = c3 ∧ ∀ x,x ∈ l → x < J.length) (fun (i,_) => c3 - i) (1,soV J a 2 o3) (kle rfl) trivial rfl (zhy 7) ⟨⟨Nat.le_refl _,hcp.1⟩,hso,by rw [hso,hc3],by rw [hso];exact hb1⟩ ?_
     rintro ⟨i,l⟩ ⟨⟨hi1,hi2⟩,hl1,hl2,hl3⟩ N hN
     obtain rfl:N = 7 :=hN
     have hi2:i ≤ c3 :=hi2
     conv => whnf
     by_cases hi3:i < c3
     ·have hi4:IntKind.i64.wrap (Int.ofNat i + 1) = Int.ofNat (i + 1) :=qa7 (m :=i + 1) (by omega)
      refine qaa (qa3 hi3) ?_
      conv => whnf
      refine qbj hE hS (A :=Nat × List Nat) [4] (fun x hx => hx) [0,1,2,3,8] (fun (j,_) => [(9,nv j)]) (fun (_,l) => [(4,.cells (tlA (nvs l)) c3 3)]) (fun _ => []) (fun (j,l2) => j ≤ i ∧ bub J l2 j = insN J o3 i ∧ l2.length = c3 ∧ ∀ x,x ∈ l2 → x < J.length) (fun (j,_) => j) (i,l) (kle rfl) trivial rfl (zhy 7) ⟨Nat.le_refl _,by rw [hl1];obtain ⟨i,rfl⟩ : ∃ k,i = k + 1 :=⟨i - 1,by omega⟩;rfl,hl2,hl3⟩ ?_
      rintro ⟨j,l2⟩ ⟨hj1,hj2,hj3,hj4⟩ N hN
      obtain rfl:N = 7 :=hN
      have hj1:j ≤ i :=hj1
      cases j with
      |zero =>
       have z0:decide (Int.ofNat 0 > 0) = false :=rfl
       conv => whnf
       repeat ((first|refine qao z0 ?_|refine qap z0 ?_|refine pkF z0 ?_|refine qac z0 ?_|refine qao (qay z0) ?_|refine qap (qay z0) ?_|refine pkF (qay z0) ?_|refine qac (qay z0) ?_|refine qad hS (by kernel_rfl) ?_);conv => whnf)
       refine .inl ?_
       conv => whnf
       exact ⟨(i + 1,l2),⟨⟨by omega,hi3⟩,(by rw [Nat.add_sub_cancel];exact hj2),hj3,hj4⟩,by show c3 - (i + 1) < c3 - i;omega,Nat.le_refl _,(zhy 7)⟩
      |succ j =>
       have z0:decide (Int.ofNat (j + 1) > 0) = true :=decide_eq_true (Int.ofNat_lt.2 (Nat.succ_pos j))
       have wj:IntKind.i64.wrap (Int.ofNat (j + 1) - 1) = Int.ofNat j :=by
        rw [show Int.ofNat (j + 1) - 1 = Int.ofNat j by show ((j + 1:Nat):Int) - 1 = (j:Int);omega]
        exact qa7 (m :=j) (by omega)
       have wq:(IntKind.i64.wrap (Int.ofNat (j + 1) - 1)).toNat = j :=by rw [wj];rfl
       have ia:inR (IntKind.i64.wrap (Int.ofNat (j + 1) - 1)) c3 = true :=by rw [wj];exact qav (by omega)
       have ib:inR (Int.ofNat (j + 1)) c3 = true :=qav (by omega)
       have da:decide (0 + (IntKind.i64.wrap (Int.ofNat (j + 1) - 1)).toNat * 1 < c3) = true :=decide_eq_true (by rw [wq];omega)
       have db:decide (0 + (j + 1) * 1 < c3) = true :=decide_eq_true (by omega)
       have ga :=qbi (l :=l2) (i :=j) (i' :=0 + (IntKind.i64.wrap (Int.ofNat (j + 1) - 1)).toNat * 1) (by omega) (by rw [wq];omega)
       have gb :=qbi (l :=l2) (i :=j + 1) (i' :=0 + (j + 1) * 1) (by omega) (by omega)
       have ba:Nat.ble (0 + (IntKind.i64.wrap (Int.ofNat (j + 1) - 1)).toNat * 1 + 1) c3 = true :=Nat.ble_eq_true_of_le (by rw [wq];omega)
       have bb:Nat.ble (0 + (j + 1) * 1 + 1) c3 = true :=Nat.ble_eq_true_of_le (by omega)
       have ma:l2.getD j 0 < J.length :=hj4 _ (by rw [qca (show j < l2.length by omega)];exact List.getElem_mem _)
       have mb:l2.getD (j + 1) 0 < J.length :=hj4 _ (by rw [qca (show j + 1 < l2.length by omega)];exact List.getElem_mem _)
       have T1:tset (pathOf (0 + (j + 1) * 1)) (tlA (nvs l2)) (nv (l2.getD j 0)) = tlA (nvs (l2.set (j + 1) (l2.getD j 0))) :=qeg (by omega) (by omega)
       have T2:tset (pathOf (0 + (IntKind.i64.wrap (Int.ofNat (j + 1) - 1)).toNat * 1)) (tlA (nvs (l2.set (j + 1) (l2.getD j 0)))) (nv (l2.getD (j + 1) 0)) = tlA (nvs (swp l2 j)) :=qeg (by rw [List.length_set];omega) (by rw [wq];omega)
       have g2 :=qbi (l :=l2.set (j + 1) (l2.getD j 0)) (i :=j) (i' :=0 + (IntKind.i64.wrap (Int.ofNat (j + 1) - 1)).toNat * 1) (by rw [List.length_set];omega) (by rw [wq];omega)
       conv => whnf
       repeat ((first|refine qaf (qba ga) ?_|refine qaf (qba gb) ?_|refine qai ‹_› ?_|refine qah ‹_› ?_|refine pkT ‹_› ?_|refine qaa ‹_› ?_|refine qai (qaj ‹_›) ?_|refine qah (qaj ‹_›) ?_|refine pkT (qaj ‹_›) ?_|refine qaa (qaj ‹_›) ?_|refine qad hS (by kernel_rfl) ?_);conv => whnf)
       refine qa6 hC (HFun.pureR (qgp mb ma) (ob1 rfl)) ?_
       conv => whnf
       by_cases c:dueL J (l2.getD (j + 1) 0) (l2.getD j 0)
       ·have cc:decide (ordI (gL J (l2.getD (j + 1) 0)).2.2 (gL J (l2.getD j 0)).2.2 < 0) = true :=by rw [qcj];exact decide_eq_true c
        repeat ((first|refine qaf (qba ga) ?_|refine qaf (qba gb) ?_|refine qai ‹_› ?_|refine qah ‹_› ?_|refine pkT ‹_› ?_|refine qaa ‹_› ?_|refine qai (qaj ‹_›) ?_|refine qah (qaj ‹_›) ?_|refine pkT (qaj ‹_›) ?_|refine qaa (qaj ‹_›) ?_|refine qad hS (by kernel_rfl) ?_);conv => whnf)
        refine qbc gb T1 ?_
        conv => whnf
        repeat ((first|refine qai ‹_› ?_|refine qah ‹_› ?_|refine pkT ‹_› ?_|refine qaa ‹_› ?_|refine qad hS (by kernel_rfl) ?_);conv => whnf)
        refine qbc g2 T2 ?_
        conv => whnf
        refine qad hS (by kernel_rfl) ?_
        conv => whnf
        exact ⟨(j,swp l2 j),⟨by omega,by rw [bub,if_pos c] at hj2;exact hj2,by rw [qgg];exact hj3,fun x hx => hj4 x (qgf (by omega) hx)⟩,by show j < j + 1;omega,Nat.le_refl _,(zhy 7)⟩
       ·have cc:decide (ordI (gL J (l2.getD (j + 1) 0)).2.2 (gL J (l2.getD j 0)).2.2 < 0) = false :=by rw [qcj];exact decide_eq_false c
        repeat ((first|refine qai ‹_› ?_|refine qah ‹_› ?_|refine pkT ‹_› ?_|refine qaa ‹_› ?_|refine qao ‹_› ?_|refine qap ‹_› ?_|refine pkF ‹_› ?_|refine qac ‹_› ?_|refine qai (qaj ‹_›) ?_|refine qah (qaj ‹_›) ?_|refine pkT (qaj ‹_›) ?_|refine qaa (qaj ‹_›) ?_|refine qad hS (by kernel_rfl) ?_);conv => whnf)
        refine .inl ?_
        conv => whnf
        exact ⟨(i + 1,l2),⟨⟨by omega,hi3⟩,(by rw [bub,if_neg c] at hj2;rw [Nat.add_sub_cancel];exact hj2),hj3,hj4⟩,by show c3 - (i + 1) < c3 - i;omega,Nat.le_refl _,(zhy 7)⟩
     ·refine qac (qbn hi3) ?_
      conv => whnf
      refine .inl ?_
      conv => whnf
      have hS1:l = srtJ J o3 :=by rw [hl1];unfold srtJ;congr 1;omega
      refine qam hE hS ?_
      conv => whnf
      refine qac (decide_eq_false (show ¬ (20:Int) < (c3:Int) by omega)) ?_
      conv => whnf
      have hS2:l = srtJ J (ownN P k3 P.length) :=by rw [hS1,ho3]
      have D0 :=dayF hW hJ h hS2 (t :=0) (by omega)
      have I1 :=(DayI.init W J P [k1,k2,k3] a l).step (by omega) D0
      have ia0:inR (0:Int) c3 = true :=qav (i :=0) (by omega)
      have db0:decide (0 + 0 * 1 < c3) = true :=decide_eq_true (by omega)
      have g00 :=qbi (l :=l) (i :=0) (i' :=0 + 0 * 1) (by omega) (by omega)
      have iJ0:inR (Int.ofNat (l.getD 0 0)) J.length = true :=qav D0.it
      have gh0 :=qbf J (l.getD 0 0) D0.it
      refine qam hE hS ?_
      conv => whnf
      refine qaa (decide_eq_true (show (0:Int) < (c3:Int) by omega)) ?_
      conv => whnf
      have iw1:inR k3 W.length = true :=by
       rw [show k3 = Int.ofNat k3.toNat from (Int.toNat_of_nonneg D0.kw.1).symm]
       exact qav D0.kw.2
      have gw1 :=qb9 W k3.toNat D0.kw.2
      have im0:inR (Int.ofNat (l.getD 0 0)) (J.length:Int).toNat = true :=qav (by have :=D0.it;omega)
      have bm0:Nat.ble (0 + l.getD 0 0 * 1 + 1) (m + 1) = true :=Nat.ble_eq_true_of_le (by have :=D0.it;omega)
      have gd0 :=qd4 (m :=m + 1) (i :=l.getD 0 0) (i' :=0 + l.getD 0 0 * 1) (dyV W J P [k1,k2,k3] a) (by have :=D0.it;omega) (by omega)
      have T0 :=qc5 (m :=m + 1) (i :=l.getD 0 0) (i' :=0 + l.getD 0 0 * 1) (dyV W J P [k1,k2,k3] a) (Int.ofNat (dyN W J P (l.getD 0 0))) (by have :=D0.it;omega) (by omega)
      repeat ((first|refine qaf (qba g00) ?_|refine qaf (nthP gh0) ?_|refine qai ‹_› ?_|refine qah ‹_› ?_|refine pkT ‹_› ?_|refine qaa ‹_› ?_|refine qad hS (by kernel_rfl) ?_);conv => whnf)
      refine qak hC (D0.sum _ _ rfl) ?_
      conv => whnf
      repeat ((first|refine qaf (nthP gw1) ?_|refine qai ‹_› ?_|refine qah ‹_› ?_|refine pkT ‹_› ?_|refine qaa ‹_› ?_|refine qab hC (D0.up) ?_|refine qad hS (by kernel_rfl) ?_);conv => whnf)
      refine qbc gd0 T0 ?_
      conv => whnf
      refine qad hS (by kernel_rfl) ?_
      conv => whnf
      have h1w:IntKind.i64.wrap (0 + 1) = Int.ofNat 1 :=qa7 (m :=1) (by omega)
      refine qa4 hE hS (A :=Nat × List AV × (Nat → Int)) [0,4,9,12,13,83,92,93] (fun (t,X,_) => [(15,.lst X t (.ch 7)),(94,nv t)]) (fun (t,_,f) => [(5,.cells (tlA (dyl (m + 1) f)) (m + 1) 3),(7,.chain t 1 3)]) (fun _ => []) (fun (t,X,f) => 1 ≤ t ∧ DayI W J P [k1,k2,k3] a l t X f) (fun (t,_,_) => l.length - t) (1,_,_) (Nat.zero_le _) rfl (zhg 20) ⟨Nat.le_refl _,I1⟩ ?_
      rintro ⟨t,X,f⟩ ⟨ht1,hI⟩ N hN
      obtain rfl:N = 20 :=hN
      have hI:DayI W J P [k1,k2,k3] a l t X f :=hI
      have hXl :=hI.len
      conv => whnf
      by_cases ht:t < l.length
      ·have D :=dayF hW hJ h hS2 (t :=t) ht
       have DS:∀ n c,n = t + 1 → Pure prog 116 (wkl [.lst (X ++ [iv (gL J (l.getD t 0)).1]) n (.ch c)]) (nv (hrs J (l.take (t + 1))).sum) :=by rw [hI.xs];exact D.sum
       have I2 :=hI.step ht D
       have ia:inR (Int.ofNat t) c3 = true :=qav (by omega)
       have db:decide (0 + t * 1 < c3) = true :=decide_eq_true (by omega)
       have g0 :=qbi (l :=l) (i :=t) (i' :=0 + t * 1) ht (by omega)
       have iJ:inR (Int.ofNat (l.getD t 0)) J.length = true :=qav D.it
       have gh :=qbf J (l.getD t 0) D.it
       have im:inR (Int.ofNat (l.getD t 0)) (J.length:Int).toNat = true :=qav (by have :=D.it;omega)
       have bm:Nat.ble (0 + l.getD t 0 * 1 + 1) (m + 1) = true :=Nat.ble_eq_true_of_le (by have :=D.it;omega)
       have gd :=qd4 (m :=m + 1) (i :=l.getD t 0) (i' :=0 + l.getD t 0 * 1) f (by have :=D.it;omega) (by omega)
       have T :=qc5 (m :=m + 1) (i :=l.getD t 0) (i' :=0 + l.getD t 0 * 1) f (Int.ofNat (dyN W J P (l.getD t 0))) (by have :=D.it;omega) (by omega)
       have d1:decide ((t + (0 + 1)) * 8 ≤ 140737488355328) = true :=decide_eq_true (by omega)
       have d2:decide (t + (0 + 1) ≤ 9223372036854775807) = true :=decide_eq_true (by omega)
       have d3:decide (t = t) = true :=decide_eq_true rfl
       have d4:qcf X (t * 1) = true :=qfa (by omega)
       have ht2:IntKind.i64.wrap (Int.ofNat t + 1) = Int.ofNat (t + 1) :=qa7 (m :=t + 1) (by omega)
       repeat ((first|refine qaf (qba g0) ?_|refine qaf (nthP gh) ?_|refine qai (qa3 (show t < c3 by omega)) ?_|refine qah (qa3 (show t < c3 by omega)) ?_|refine pkT (qa3 (show t < c3 by omega)) ?_|refine qaa (qa3 (show t < c3 by omega)) ?_|refine qao (qa3 (show t < c3 by omega)) ?_|refine qap (qa3 (show t < c3 by omega)) ?_|refine pkF (qa3 (show t < c3 by omega)) ?_|refine qac (qa3 (show t < c3 by omega)) ?_|refine qai ‹_› ?_|refine qah ‹_› ?_|refine pkT ‹_› ?_|refine qaa ‹_› ?_|refine qad hS (by kernel_rfl) ?_);conv => whnf)
       refine qak hC (DS _ _ rfl) ?_
       conv => whnf
       repeat ((first|refine qaf (nthP gw1) ?_|refine qai ‹_› ?_|refine qah ‹_› ?_|refine pkT ‹_› ?_|refine qaa ‹_› ?_|refine qab hC (D.up) ?_|refine qad hS (by kernel_rfl) ?_);conv => whnf)
       refine qbc gd T ?_
       conv => whnf
       refine qad hS (by kernel_rfl) ?_
       conv => whnf
       exact ⟨(t + 1,_,_),⟨by omega,I2⟩,by show l.length - (t + 1) < l.length - t;omega,Nat.le_refl _,(zhg 20)⟩
      ·refine qac (qbn (show ¬ t < c3 by omega)) ?_
       conv => whnf
       refine .inl ?_
       conv => whnf
       have E1 :=hI.last (e :=2) (by have :=hI.le;omega) hS2 rfl
       rw [show P.length = m + 1 by omega] at E1
       have E2:tlA (nvs l) = tlA (nvs (soV J (2 :: a) 2 o3)) :=by rw [hS1];exact congrArg (fun z => tlA (nvs z)) (if_pos (List.mem_cons_self ..)).symm
       exact ⟨2 :: a,(qgi a ha 2 (by decide) hn).1,(qgi a ha 2 (by decide) hn).2,(zhg 7)⟩
   ·intro a ha hall N hN
    subst hN
    conv => whnf
    have a1:0 ∈ a :=hall 0 (kle rfl)
    have a2:1 ∈ a :=hall 1 (kle rfl)
    have a3:2 ∈ a :=hall 2 (kle rfl)
    have E1:tlA (dyl (m + 1) (dyV W J P [k1,k2,k3] a)) = tlA (dyl (m + 1) fun j => Int.ofNat (dyN W J P j)) :=by
     refine congrArg tlA (qf7 fun j hj => ?_)
     obtain ⟨r,q1,q2⟩ :=hRo.al j (by omega)
     refine qng ?_
     simp only [List.mem_cons,List.not_mem_nil,or_false] at q1
     rcases q1 with rfl | rfl | rfl
     ·exact ⟨0,a1,q2⟩
     ·exact ⟨1,a2,q2⟩
     ·exact ⟨2,a3,q2⟩
    have F1:tlA (nvs (soV J a 0 o1)) = tlA (nvs (srtJ J o1)) :=congrArg (fun z => tlA (nvs z)) (if_pos a1)
    have F2:tlA (nvs (soV J a 1 o2)) = tlA (nvs (srtJ J o2)) :=congrArg (fun z => tlA (nvs z)) (if_pos a2)
    have F3:tlA (nvs (soV J a 2 o3)) = tlA (nvs (srtJ J o3)) :=congrArg (fun z => tlA (nvs z)) (if_pos a3)
    exact ⟨rfl,(zhy 7)⟩
   ·intro N hN
    subst hN
    conv => whnf
    exact ⟨_,rfl,qnh hm (rfl:_ = AObj.cells (tlA (dyl (m + 1) fun j => Int.ofNat (dyN W J P j))) (m + 1) 3)⟩
  ·exact absurd (qmi hRo fun j hj => by have :=(h.2 j (by omega)).1;omega) (by simp)
end
end Go.Abs.Seat
