/-
  The text of a rule with trains, as the document writes it.
-/
import Derived.Test.YtnimgfkggbnjoaaGreatDoorXU14
namespace Go.Abs.Seat
noncomputable section
open Go Go.Abs Go.Proofs.Tryz
set_option maxRecDepth 100000
set_option maxHeartbeats 40000000
attribute [local irreducible] IntKind.wrap pEq
theorem qbz:Pure prog 41 [] (.lst [.str [],.str [97,110,121],.str [115,97,109,101],.str [111,116,104,101,114]] 4 .no) :=by
 refine qbg hE rfl (by repeat' first|exact trivial|assumption|exact qa3 _|exact fun _ h => nomatch h|apply And.intro) (by repeat' first|exact trivial|assumption|exact qa3 _|exact fun _ h => nomatch h|apply And.intro) fun S q pc hS hq hC hE => ?_
 conv => whnf
 exact ⟨_,rfl,(WkV.own _ _ _).wk⟩
theorem qnn (s:Nat):(qc9 s).length ≤ 5 :=by
 unfold qc9
 split
 ·decide
 ·split <;> decide
theorem qov {s:Nat} (h:1 ≤ s ∧ s ≤ 3):nth [.str [],.str [97,110,121],.str [115,97,109,101],.str [111,116,104,101,114]] (s * 1) = some (AV.str (qc9 s)) :=by
 have:s = 1 ∨ s = 2 ∨ s = 3 :=by omega
 rcases this with rfl | rfl | rfl <;> rfl
def rwS (r:TrR) (V:List Nat) (T:List (List (Nat × Nat))):List AV :=stA (lnsT r V T)
theorem qv0 (r:TrR) (V:List Nat) (T:List (List (Nat × Nat))):Lives noL (rwS r V T) :=qbs _
theorem qj6 (r:TrR) (V:List Nat) (T:List (List (Nat × Nat))) {i:Nat} (h:i < T.length):rwS r V (T.take i) ++ [.str (lnT (gT T i))] = rwS r V (T.take (i + 1)) :=by
 rw [qg1 T h]
 unfold rwS lnsT stA
 simp
theorem qlp {r:TrR} {V:List Nat} {T:List (List (Nat × Nat))} {n:Nat} (h:T.length + 2 = n):qen (rwS r V T) (n * 1) = true :=by
 have k :=qe1 (rwS r V T)
 unfold rwS at k ⊢
 rw [qfu,qdh] at k
 rwa [Nat.mul_one,← h]
theorem qkn (r:TrR) (V:List Nat) (T:List (List (Nat × Nat))) {i:Nat} (h:i < T.length + 2):nth (rwS r V T) (i * 1) = some (.str (gB (lnsT r V T) i)) :=qb2 (by rw [qdh];exact h)
theorem qom (a b c s:Nat):(((((([114,117,108,101,32] ++ dec a) ++ [32]) ++ dec b) ++ [32]) ++ dec c) ++ [32]) ++ qc9 s = lnR (a,b,c,s) :=by
 unfold lnR
 simp [lnW,qh6]
theorem lnT2 (t:List (Nat × Nat)) {j:Nat} (h:j < t.length):(((lnW qdj (flN (t.take j)) ++ [32]) ++ dec (gq t j).1) ++ [32]) ++ dec (gq t j).2 = lnW qdj (flN (t.take (j + 1))) :=by
 rw [qbx t h,qnb,qm3]
 simp [lnW]
theorem qv9 {t:List (Nat × Nat)} {j:Nat} (h:j ≤ 450):(lnW qdj (flN (t.take j))).length ≤ 4000 :=by
 have k :=qfz (flN (t.take j)) qdj
 rw [qbi,List.length_take] at k
 have e:qdj.length = 5 :=rfl
 omega
theorem qv8 {t:List (Nat × Nat)} (h:∀ n,n ∈ flN t → n < 1000) {j:Nat} (hj:j < t.length):(gq t j).1 < 1000 ∧ (gq t j).2 < 1000 :=by
 have k :=qcq t hj
 have l :=qbi t
 rw [← k.1,← k.2]
 exact ⟨qfq h (by omega),qfq h (by omega)⟩
theorem rdW {x:Int} {m:Nat} (hx:x = Int.ofNat m) (hm:m < 1000):Pure prog 40 [iv x] (.str (dec m)) :=by subst hx;exact qcl hm
theorem qtj {a b c s:Nat} {V:List Nat} {T:List (List (Nat × Nat))} (o:okR (a,b,c,s) V T) (hw:ShW (a,b,c,s) V T):Pure prog 13 [.agg [nv a,nv b,nv c,nv s,nl (zl V)],.lst (xqs T) T.length .no] (.str (prtT (a,b,c,s) V T)) :=by
 have hs:1 ≤ s ∧ s ≤ 3 :=o.1.2
 have hs4:s < 4 :=by omega
 have gs :=qov hs
 have q1 :=qcl (n :=a) o.1.1.1
 have q2 :=qcl (n :=b) o.1.1.2.1
 have q3 :=qcl (n :=c) o.1.1.2.2
 have g1 :=qbv (kle rfl:([114,117,108,101,32]:List UInt8).length ≤ 5) (qb8 a)
 have g2 :=qbv g1 (Nat.le_refl ([32]:List UInt8).length)
 have g3 :=qbv g2 (qb8 b)
 have g4 :=qbv g3 (Nat.le_refl ([32]:List UInt8).length)
 have g5 :=qbv g4 (qb8 c)
 have g6 :=qbv g5 (Nat.le_refl ([32]:List UInt8).length)
 have g7 :=qbv g6 (qnn s)
 have lV :=qby (zl V)
 have lT :=qdt T
 have hV9 :=hw.hV
 have hT9 :=hw.hT
 have sW :=hw.le
 refine qbg hE rfl (by repeat' first|exact trivial|assumption|exact qa3 _|exact fun _ h => nomatch h|apply And.intro) (by repeat' first|exact trivial|assumption|exact qa3 _|exact fun _ h => nomatch h|apply And.intro) fun S q pc hS hq hC hE => ?_
 conv => whnf
 try have z334:=qbf hs4
 try have z335:=qb5 (milB g1 rfl)
 try have z336:=qb5 (milB g2 rfl)
 try have z337:=qb5 (milB g3 rfl)
 try have z338:=qb5 (milB g4 rfl)
 try have z339:=qb5 (milB g5 rfl)
 try have z340:=qb5 (milB g6 rfl)
 try have z341:=qb5 (milB g7 rfl)
 repeat ((first|refine qa2 (nthP gs) ?_|refine qa5 ‹_› ?_|refine qa4 ‹_› ?_|refine pkT ‹_› ?_|refine qax ‹_› ?_|refine qa9 ‹_› ?_|refine qbc ‹_› ?_|refine pkF ‹_› ?_|refine qar ‹_› ?_|refine qav hC (q1) ?_|refine qav hC (q2) ?_|refine qav hC (q3) ?_|refine qav hC (qbz) ?_|refine qaq hS (by kernel_rfl) ?_);conv => whnf)
 refine qbh hE hS (A :=Nat) [1,2,5] (fun i => [(6,.str (lnW qct (V.take i))),(7,nv i)]) (fun _ => []) (fun _ => []) (fun i => i ≤ V.length) (fun i => V.length - i) 0 (kle rfl) rfl (zhg 24) (Nat.zero_le _) ?_
 intro i hi K hK
 obtain rfl:K = 24 :=hK
 conv => whnf
 by_cases hi2:i < V.length
 ·have hi1:IntKind.i64.wrap (Int.ofNat i + 1) = Int.ofNat (i + 1) :=qbr (m :=i + 1) (by omega)
  have hz:i < (zl V).length :=by rw [qcd];exact hi2
  have gr:nth (ivs (zl V)) (i * 1) = some (nv (gn V i)) :=(qbq (l :=zl V) (i :=i) hz).trans (by rw [qcf V hi2])
  have p1 :=qcl (qfq o.2.1 hi2)
  have f1 :=qbv (qjl (w :=qct) (L :=V) (kle rfl) (i :=i) (by omega)) (Nat.le_refl ([32]:List UInt8).length)
  have f2 :=qbv f1 (qb8 (gn V i))
  have e2:AV.str ((lnW qct (V.take i) ++ [32]) ++ dec (gn V i)) = .str (lnW qct (V.take (i + 1))) :=by rw [qhy qct V hi2,List.append_assoc]
  try have z342:=qbk hz
  try have z343:=qbf hz
  try have z344:=qb5 (milB f1 rfl)
  try have z345:=qb5 (milB f2 rfl)
  repeat ((first|refine qa2 (nthP gr) ?_|refine qa5 ‹_› ?_|refine qa4 ‹_› ?_|refine pkT ‹_› ?_|refine qax ‹_› ?_|refine qa9 ‹_› ?_|refine qbc ‹_› ?_|refine pkF ‹_› ?_|refine qar ‹_› ?_|refine qav hC (p1) ?_|refine qaq hS (by kernel_rfl) ?_);conv => whnf)
  exact ⟨i + 1,hi2,by omega,Nat.le_refl _,(zhg 24)⟩
 refine qar (qb9 (show ¬ i < (zl V).length by rw [qcd];exact hi2)) ?_
 conv => whnf
 refine .inl ?_
 conv => whnf
 have eV:AV.str (lnW qct (V.take i)) = .str (lnW qct V) :=by rw [show i = V.length by omega,List.take_length]
 repeat ((first|refine qaq hS (by kernel_rfl) ?_);conv => whnf)
 have eR0:AV.lst [.str ((((((([114,117,108,101,32] ++ dec a) ++ [32]) ++ dec b) ++ [32]) ++ dec c) ++ [32]) ++ qc9 s),.str (lnW qct (V.take i))] 2 (.ch 24) = .lst (rwS (a,b,c,s) V (T.take 0)) (0 + 2) (.ch 24) :=by
  rw [qom,AV.str.inj eV];rfl
 refine qbh hE hS (A :=Nat) [1] (fun i => [(5,.lst (rwS (a,b,c,s) V (T.take i)) (i + 2) (.ch 24)),(8,nv i)]) (fun i => [(24,.chain (i + 2) 1 9)]) (fun _ => []) (fun i => i ≤ T.length) (fun i => T.length - i) 0 (kle rfl) rfl (zhg 25) (Nat.zero_le _) ?_
 intro i hi K hK
 obtain rfl:K = 25 :=hK
 conv => whnf
 by_cases hi2:i < T.length
 ·have hi1:IntKind.i64.wrap (Int.ofNat i + 1) = Int.ofNat (i + 1) :=qbr (m :=i + 1) (by omega)
  have gx :=qgj T hi2
  have hm:gT T i ∈ T :=qhj hi2
  have ht9 :=hw.ht _ hm
  have hlt :=o.2.2 _ hm
  have d1:decide ((i + 2 + (0 + 1)) * 16 ≤ 140737488355328) = true :=decide_eq_true (by omega)
  have d2:decide (i + 2 + (0 + 1) ≤ 9223372036854775807) = true :=decide_eq_true (by omega)
  have d3 :=qlp (r :=(a,b,c,s)) (V :=V) (T :=T.take i) (n :=i + 2) (by rw [List.length_take];omega)
  have d4:decide (i + 2 = i + 2) = true :=decide_eq_true rfl
  obtain ⟨t,et⟩ : ∃ t,t = gT T i :=⟨_,rfl⟩
  rw [← et] at gx ht9 hlt
  refine Or.elim (Classical.em (t = [])) (fun ht0 => ?_) fun ht0 => ?_
  ·have eX:xqV t = .nils :=if_pos ht0
   rw [eX] at gx
   have e2 :=qj6 (a,b,c,s) V T hi2
   rw [← et,show lnT t = [116,114,97,105,110] by rw [ht0];rfl] at e2
   try have z346:=qbk hi2
   try have z347:=qbf hi2
   repeat ((first|refine qa2 (nthP gx) ?_|refine qa5 ‹_› ?_|refine qa4 ‹_› ?_|refine pkT ‹_› ?_|refine qax ‹_› ?_|refine qa9 ‹_› ?_|refine qbc ‹_› ?_|refine pkF ‹_› ?_|refine qar ‹_› ?_|refine qaq hS (by kernel_rfl) ?_);conv => whnf)
   refine qa6 hE hS ?_
   conv => whnf
   try have z348:=qbk hi2
   try have z349:=qbf hi2
   repeat ((first|refine qa2 (nthP gx) ?_|refine qa5 ‹_› ?_|refine qa4 ‹_› ?_|refine pkT ‹_› ?_|refine qax ‹_› ?_|refine qa9 ‹_› ?_|refine qbc ‹_› ?_|refine pkF ‹_› ?_|refine qar ‹_› ?_|refine qaq hS (by kernel_rfl) ?_);conv => whnf)
   exact ⟨i + 1,hi2,by omega,kle rfl,(zhg 25)⟩
  ·have eX:xqV t = pv (zp t) :=if_neg ht0
   rw [eX] at gx
   have lF :=qa3 (zp t)
   try have z350:=qbk hi2
   try have z351:=qbf hi2
   repeat ((first|refine qa2 (nthP gx) ?_|refine qa5 ‹_› ?_|refine qa4 ‹_› ?_|refine pkT ‹_› ?_|refine qax ‹_› ?_|refine qa9 ‹_› ?_|refine qbc ‹_› ?_|refine pkF ‹_› ?_|refine qar ‹_› ?_|refine qaq hS (by kernel_rfl) ?_);conv => whnf)
   refine qbh hE hS (A :=Nat) [1,5,8] (fun j => [(9,.str (lnW qdj (flN (t.take j)))),(10,nv j)]) (fun _ => []) (fun _ => []) (fun j => j ≤ t.length) (fun j => t.length - j) 0 (kle rfl) rfl (zhg 25) (Nat.zero_le _) ?_
   intro j hj K hK
   obtain rfl:K = 25 :=hK
   conv => whnf
   by_cases hj2:j < t.length
   ·have hj1:IntKind.i64.wrap (Int.ofNat j + 1) = Int.ofNat (j + 1) :=qbr (m :=j + 1) (by omega)
    have hjz:j < (zp t).length :=by rw [qew];exact hj2
    have gf :=qko (zp t) hjz
    have gz:gpr (zp t) j = (Int.ofNat (gq t j).1,Int.ofNat (gq t j).2) :=by simp [gpr,gq,zp,List.getD,hj2]
    rw [gz] at gf
    have hl :=qv8 hlt hj2
    have p1 :=qcl hl.1
    have p2 :=qcl hl.2
    have f1 :=qbv (qv9 (t :=t) (j :=j) (by omega)) (Nat.le_refl ([32]:List UInt8).length)
    have f2 :=qbv f1 (qb8 (gq t j).1)
    have f3 :=qbv f2 (Nat.le_refl ([32]:List UInt8).length)
    have f4 :=qbv f3 (qb8 (gq t j).2)
    have e3 :=congrArg AV.str (lnT2 t hj2)
    try have z352:=qbk hi2
    try have z353:=qbf hi2
    try have z354:=qbk hjz
    try have z355:=qbf hjz
    try have z356:=qb5 (milB f1 rfl)
    try have z357:=qb5 (milB f2 rfl)
    try have z358:=qb5 (milB f3 rfl)
    try have z359:=qb5 (milB f4 rfl)
    repeat ((first|refine qa2 (nthP gx) ?_|refine qa2 (nthP gf.1) ?_|refine qa2 (nthP gf.2) ?_|refine qa5 ‹_› ?_|refine qa4 ‹_› ?_|refine pkT ‹_› ?_|refine qax ‹_› ?_|refine qa9 ‹_› ?_|refine qbc ‹_› ?_|refine pkF ‹_› ?_|refine qar ‹_› ?_|refine qav hC (p1) ?_|refine qav hC (p2) ?_|refine qaq hS (by kernel_rfl) ?_);conv => whnf)
    exact ⟨j + 1,hj2,by omega,kle rfl,(zhg 25)⟩
   ·have hjE:j = t.length :=by omega
    have e2 :=qj6 (a,b,c,s) V T hi2
    rw [← et,show lnT t = lnW qdj (flN (t.take j)) by rw [hjE,List.take_length];rfl] at e2
    have hjz:¬ j < (zp t).length :=by rw [qew];exact hj2
    have hjf:decide (Int.ofNat j < Int.ofNat (zp t).length) = false :=qb9 hjz
    try have z360:=qbk hi2
    try have z361:=qbf hi2
    repeat ((first|refine qa2 (nthP gx) ?_|refine qa5 ‹_› ?_|refine qa4 ‹_› ?_|refine pkT ‹_› ?_|refine qax ‹_› ?_|refine qa9 ‹_› ?_|refine qbc ‹_› ?_|refine pkF ‹_› ?_|refine qar ‹_› ?_|refine qaq hS (by kernel_rfl) ?_);conv => whnf)
    refine .inl ?_
    conv => whnf
    repeat ((first|refine qa5 ‹_› ?_|refine qa4 ‹_› ?_|refine pkT ‹_› ?_|refine qax ‹_› ?_|refine qa9 ‹_› ?_|refine qbc ‹_› ?_|refine pkF ‹_› ?_|refine qar ‹_› ?_|refine qaq hS (by kernel_rfl) ?_);conv => whnf)
    exact ⟨i + 1,hi2,by omega,kle rfl,(zhg 25)⟩
 refine qar (qb9 hi2) ?_
 conv => whnf
 refine .inl ?_
 conv => whnf
 have eR:AV.lst (rwS (a,b,c,s) V (T.take i)) (i + 2) (.ch 24) = .lst (rwS (a,b,c,s) V T) (T.length + 2) (.ch 24) :=by rw [show i = T.length by omega,List.take_length]
 repeat ((first|refine qaq hS (by kernel_rfl) ?_);conv => whnf)
 refine qbh hE hS (A :=Nat) [] (fun i => [(5,.lst (rwS (a,b,c,s) V T) (T.length + 2) (.ch 24)),(11,.str (ouB (lnsT (a,b,c,s) V T) i)),(12,nv (ckN (lnsT (a,b,c,s) V T) i)),(13,nv i)]) (fun _ => []) (fun _ => []) (fun i => i ≤ T.length + 2) (fun i => T.length + 2 - i) 0 (kle rfl) rfl (zhg 25) (Nat.zero_le _) ?_
 intro i hi K hK
 obtain rfl:K = 25 :=hK
 conv => whnf
 by_cases hi2:i < T.length + 2
 ·have hi1:IntKind.i64.wrap (Int.ofNat i + 1) = Int.ofNat (i + 1) :=qbr (m :=i + 1) (by omega)
  have hs :=sW i
  have gr :=qkn (a,b,c,s) V T hi2
  have hw :=qeq sW i (by omega)
  try have z362:=qbk hi2
  try have z363:=qbf hi2
  repeat ((first|refine qa2 (nthP gr) ?_|refine qa5 ‹_› ?_|refine qa4 ‹_› ?_|refine pkT ‹_› ?_|refine qax ‹_› ?_|refine qa9 ‹_› ?_|refine qbc ‹_› ?_|refine pkF ‹_› ?_|refine qar ‹_› ?_|refine qaq hS (by kernel_rfl) ?_);conv => whnf)
  refine qbh hE hS (A :=Nat) [5,11,13] (fun k => [(12,nv (ckN (lnsT (a,b,c,s) V T) i + ckL (gB (lnsT (a,b,c,s) V T) i) i k)),(14,nv k)]) (fun _ => []) (fun _ => []) (fun k => k ≤ (gB (lnsT (a,b,c,s) V T) i).length) (fun k => (gB (lnsT (a,b,c,s) V T) i).length - k) 0 (kle rfl) rfl (zhg 25) (Nat.zero_le _) ?_
  intro k hk K hK
  obtain rfl:K = 25 :=hK
  conv => whnf
  by_cases hk2:k < (gB (lnsT (a,b,c,s) V T) i).length
  ·have hk1:IntKind.i64.wrap (Int.ofNat k + 1) = Int.ofNat (k + 1) :=qbr (m :=k + 1) (by omega)
   have hc :=qer (s :=gB (lnsT (a,b,c,s) V T) i) (i :=i) (k :=k) (by omega) (by omega)
   have hb:((gB (lnsT (a,b,c,s) V T) i).getD k 0).toNat ≤ 256 :=Nat.le_of_lt (UInt8.toNat_lt _)
   have ew:_ = Int.ofNat (ckN (lnsT (a,b,c,s) V T) i + ckL (gB (lnsT (a,b,c,s) V T) i) i (k + 1)) :=(qec (c :=ckN (lnsT (a,b,c,s) V T) i + ckL (gB (lnsT (a,b,c,s) V T) i) i k) (by omega) hb (show k ≤ 4000 by omega) (show i < 1000 by omega)).trans (by rw [ckL,Nat.add_assoc])
   try have z364:=qbk hi2
   try have z365:=qbf hi2
   try have z366:=qbk hk2
   try have z367:=qbf hk2
   repeat ((first|refine qa2 (nthP gr) ?_|refine qa2 (qdg hk2) ?_|refine qa5 ‹_› ?_|refine qa4 ‹_› ?_|refine pkT ‹_› ?_|refine qax ‹_› ?_|refine qa9 ‹_› ?_|refine qbc ‹_› ?_|refine pkF ‹_› ?_|refine qar ‹_› ?_|refine qaq hS (by kernel_rfl) ?_);conv => whnf)
   exact ⟨k + 1,hk2,by omega,Nat.le_refl _,(zhg 25)⟩
  ·have hkE:k = (gB (lnsT (a,b,c,s) V T) i).length :=by omega
   have o1 :=qc3 sW i
   have o2 :=qbv o1 hs
   have o3 :=qbv o2 (Nat.le_refl ([10]:List UInt8).length)
   have o4:(ouB (lnsT (a,b,c,s) V T) i ++ gB (lnsT (a,b,c,s) V T) i).length ≤ 100000000 :=by omega
   have o5:((ouB (lnsT (a,b,c,s) V T) i ++ gB (lnsT (a,b,c,s) V T) i) ++ [10]).length ≤ 100000000 :=by simp only [List.length_cons,List.length_nil] at o3;omega
   have eO:AV.str ((ouB (lnsT (a,b,c,s) V T) i ++ gB (lnsT (a,b,c,s) V T) i) ++ [10]) = .str (ouB (lnsT (a,b,c,s) V T) (i + 1)) :=by rw [ouB,List.append_assoc]
   have hkf:decide (Int.ofNat k < Int.ofNat (gB (lnsT (a,b,c,s) V T) i).length) = false :=qb9 hk2
   try have z368:=qbk hi2
   try have z369:=qbf hi2
   repeat ((first|refine qa2 (nthP gr) ?_|refine qa5 ‹_› ?_|refine qa4 ‹_› ?_|refine pkT ‹_› ?_|refine qax ‹_› ?_|refine qa9 ‹_› ?_|refine qbc ‹_› ?_|refine pkF ‹_› ?_|refine qar ‹_› ?_|refine qaq hS (by kernel_rfl) ?_);conv => whnf)
   refine .inl ?_
   conv => whnf
   try have z370:=qbf hi2
   try have z371:=qb5 o4
   try have z372:=qb5 o5
   repeat ((first|refine qa2 (nthP gr) ?_|refine qa5 ‹_› ?_|refine qa4 ‹_› ?_|refine pkT ‹_› ?_|refine qax ‹_› ?_|refine qa9 ‹_› ?_|refine qbc ‹_› ?_|refine pkF ‹_› ?_|refine qar ‹_› ?_|refine qaq hS (by kernel_rfl) ?_);conv => whnf)
   exact ⟨i + 1,hi2,by omega,Nat.le_refl _,(zhg 25)⟩
 have hiE2:i = (lnsT (a,b,c,s) V T).length :=by rw [qdh];omega
 have t :=qe4 (ckN (lnsT (a,b,c,s) V T) i)
 have hm :=Nat.mod_lt (ckN (lnsT (a,b,c,s) V T) i) (show 0 < 109 by decide)
 have p1 :=rdW t.1 (by omega)
 have p2 :=rdW t.2.1 (by omega)
 have p3 :=rdW t.2.2 (by omega)
 have o1 :=qc3 sW i
 have o2:(ouB (lnsT (a,b,c,s) V T) i ++ [101,110,100,32]).length ≤ 5000000 :=by rw [List.length_append];show _ + 4 ≤ _;omega
 have o3 :=qbv o2 (qb8 (ckN (lnsT (a,b,c,s) V T) i % 109 / 100))
 have o4 :=qbv o3 (qb8 (ckN (lnsT (a,b,c,s) V T) i % 109 / 10 % 10))
 have o5 :=qbv o4 (qb8 (ckN (lnsT (a,b,c,s) V T) i % 109 % 10))
 have o6 :=qbv o5 (Nat.le_refl ([10]:List UInt8).length)
 refine qar (qb9 hi2) ?_
 conv => whnf
 refine .inl ?_
 conv => whnf
 try have z373:=qb5 (milB o2 rfl)
 try have z374:=qb5 (milB o3 rfl)
 try have z375:=qb5 (milB o4 rfl)
 try have z376:=qb5 (milB o5 rfl)
 try have z377:=qb5 (milB o6 rfl)
 repeat ((first|refine qa5 ‹_› ?_|refine qa4 ‹_› ?_|refine pkT ‹_› ?_|refine qax ‹_› ?_|refine qa9 ‹_› ?_|refine qbc ‹_› ?_|refine pkF ‹_› ?_|refine qar ‹_› ?_|refine qav hC (p1) ?_|refine qav hC (p2) ?_|refine qav hC (p3) ?_|refine qaq hS (by kernel_rfl) ?_);conv => whnf)
 exact ⟨_,rfl,wk_s (by unfold prtT finB;rw [← hiE2])⟩
theorem qti {a b c s:Nat} {V:List Nat} {T:List (List (Nat × Nat))} (hT0:T = []) (o:okR (a,b,c,s) V T) (hw:ShW (a,b,c,s) V T):Pure prog 13 [.agg [nv a,nv b,nv c,nv s,nl (zl V)],.nils] (.str (prtT (a,b,c,s) V T)) :=by
 have hs:1 ≤ s ∧ s ≤ 3 :=o.1.2
 have hs4:s < 4 :=by omega
 have gs :=qov hs
 have q1 :=qcl (n :=a) o.1.1.1
 have q2 :=qcl (n :=b) o.1.1.2.1
 have q3 :=qcl (n :=c) o.1.1.2.2
 have g1 :=qbv (kle rfl:([114,117,108,101,32]:List UInt8).length ≤ 5) (qb8 a)
 have g2 :=qbv g1 (Nat.le_refl ([32]:List UInt8).length)
 have g3 :=qbv g2 (qb8 b)
 have g4 :=qbv g3 (Nat.le_refl ([32]:List UInt8).length)
 have g5 :=qbv g4 (qb8 c)
 have g6 :=qbv g5 (Nat.le_refl ([32]:List UInt8).length)
 have g7 :=qbv g6 (qnn s)
 have lV :=qby (zl V)
 have lT :=qdt T
 have hV9 :=hw.hV
 have hT9 :=hw.hT
 have sW :=hw.le
 refine qbg hE rfl (by repeat' first|exact trivial|assumption|exact qa3 _|exact fun _ h => nomatch h|apply And.intro) (by repeat' first|exact trivial|assumption|exact qa3 _|exact fun _ h => nomatch h|apply And.intro) fun S q pc hS hq hC hE => ?_
 conv => whnf
 try have z378:=qbf hs4
 try have z379:=qb5 (milB g1 rfl)
 try have z380:=qb5 (milB g2 rfl)
 try have z381:=qb5 (milB g3 rfl)
 try have z382:=qb5 (milB g4 rfl)
 try have z383:=qb5 (milB g5 rfl)
 try have z384:=qb5 (milB g6 rfl)
 try have z385:=qb5 (milB g7 rfl)
 repeat ((first|refine qa2 (nthP gs) ?_|refine qa5 ‹_› ?_|refine qa4 ‹_› ?_|refine pkT ‹_› ?_|refine qax ‹_› ?_|refine qa9 ‹_› ?_|refine qbc ‹_› ?_|refine pkF ‹_› ?_|refine qar ‹_› ?_|refine qav hC (q1) ?_|refine qav hC (q2) ?_|refine qav hC (q3) ?_|refine qav hC (qbz) ?_|refine qaq hS (by kernel_rfl) ?_);conv => whnf)
 refine qbh hE hS (A :=Nat) [1,2,5] (fun i => [(6,.str (lnW qct (V.take i))),(7,nv i)]) (fun _ => []) (fun _ => []) (fun i => i ≤ V.length) (fun i => V.length - i) 0 (kle rfl) rfl (zhg 24) (Nat.zero_le _) ?_
 intro i hi K hK
 obtain rfl:K = 24 :=hK
 conv => whnf
 by_cases hi2:i < V.length
 ·have hi1:IntKind.i64.wrap (Int.ofNat i + 1) = Int.ofNat (i + 1) :=qbr (m :=i + 1) (by omega)
  have hz:i < (zl V).length :=by rw [qcd];exact hi2
  have gr:nth (ivs (zl V)) (i * 1) = some (nv (gn V i)) :=(qbq (l :=zl V) (i :=i) hz).trans (by rw [qcf V hi2])
  have p1 :=qcl (qfq o.2.1 hi2)
  have f1 :=qbv (qjl (w :=qct) (L :=V) (kle rfl) (i :=i) (by omega)) (Nat.le_refl ([32]:List UInt8).length)
  have f2 :=qbv f1 (qb8 (gn V i))
  have e2:AV.str ((lnW qct (V.take i) ++ [32]) ++ dec (gn V i)) = .str (lnW qct (V.take (i + 1))) :=by rw [qhy qct V hi2,List.append_assoc]
  try have z386:=qbk hz
  try have z387:=qbf hz
  try have z388:=qb5 (milB f1 rfl)
  try have z389:=qb5 (milB f2 rfl)
  repeat ((first|refine qa2 (nthP gr) ?_|refine qa5 ‹_› ?_|refine qa4 ‹_› ?_|refine pkT ‹_› ?_|refine qax ‹_› ?_|refine qa9 ‹_› ?_|refine qbc ‹_› ?_|refine pkF ‹_› ?_|refine qar ‹_› ?_|refine qav hC (p1) ?_|refine qaq hS (by kernel_rfl) ?_);conv => whnf)
  exact ⟨i + 1,hi2,by omega,Nat.le_refl _,(zhg 24)⟩
 refine qar (qb9 (show ¬ i < (zl V).length by rw [qcd];exact hi2)) ?_
 conv => whnf
 refine .inl ?_
 conv => whnf
 have eV:AV.str (lnW qct (V.take i)) = .str (lnW qct V) :=by rw [show i = V.length by omega,List.take_length]
 repeat ((first|refine qaq hS (by kernel_rfl) ?_);conv => whnf)
 have eR:AV.lst [.str ((((((([114,117,108,101,32] ++ dec a) ++ [32]) ++ dec b) ++ [32]) ++ dec c) ++ [32]) ++ qc9 s),.str (lnW qct (V.take i))] 2 (.ch 24) = .lst (rwS (a,b,c,s) V T) (T.length + 2) (.ch 24) :=by
  rw [qom,AV.str.inj eV,hT0];rfl
 refine qa6 hE hS ?_
 conv => whnf
 repeat ((first|refine qaq hS (by kernel_rfl) ?_);conv => whnf)
 refine qbh hE hS (A :=Nat) [] (fun i => [(5,.lst (rwS (a,b,c,s) V T) (T.length + 2) (.ch 24)),(11,.str (ouB (lnsT (a,b,c,s) V T) i)),(12,nv (ckN (lnsT (a,b,c,s) V T) i)),(13,nv i)]) (fun _ => []) (fun _ => []) (fun i => i ≤ T.length + 2) (fun i => T.length + 2 - i) 0 (kle rfl) rfl (zhg 25) (Nat.zero_le _) ?_
 intro i hi K hK
 obtain rfl:K = 25 :=hK
 conv => whnf
 by_cases hi2:i < T.length + 2
 ·have hi1:IntKind.i64.wrap (Int.ofNat i + 1) = Int.ofNat (i + 1) :=qbr (m :=i + 1) (by omega)
  have hs :=sW i
  have gr :=qkn (a,b,c,s) V T hi2
  have hw :=qeq sW i (by omega)
  try have z390:=qbk hi2
  try have z391:=qbf hi2
  repeat ((first|refine qa2 (nthP gr) ?_|refine qa5 ‹_› ?_|refine qa4 ‹_› ?_|refine pkT ‹_› ?_|refine qax ‹_› ?_|refine qa9 ‹_› ?_|refine qbc ‹_› ?_|refine pkF ‹_› ?_|refine qar ‹_› ?_|refine qaq hS (by kernel_rfl) ?_);conv => whnf)
  refine qbh hE hS (A :=Nat) [5,11,13] (fun k => [(12,nv (ckN (lnsT (a,b,c,s) V T) i + ckL (gB (lnsT (a,b,c,s) V T) i) i k)),(14,nv k)]) (fun _ => []) (fun _ => []) (fun k => k ≤ (gB (lnsT (a,b,c,s) V T) i).length) (fun k => (gB (lnsT (a,b,c,s) V T) i).length - k) 0 (kle rfl) rfl (zhg 25) (Nat.zero_le _) ?_
  intro k hk K hK
  obtain rfl:K = 25 :=hK
  conv => whnf
  by_cases hk2:k < (gB (lnsT (a,b,c,s) V T) i).length
  ·have hk1:IntKind.i64.wrap (Int.ofNat k + 1) = Int.ofNat (k + 1) :=qbr (m :=k + 1) (by omega)
   have hc :=qer (s :=gB (lnsT (a,b,c,s) V T) i) (i :=i) (k :=k) (by omega) (by omega)
   have hb:((gB (lnsT (a,b,c,s) V T) i).getD k 0).toNat ≤ 256 :=Nat.le_of_lt (UInt8.toNat_lt _)
   have ew:_ = Int.ofNat (ckN (lnsT (a,b,c,s) V T) i + ckL (gB (lnsT (a,b,c,s) V T) i) i (k + 1)) :=(qec (c :=ckN (lnsT (a,b,c,s) V T) i + ckL (gB (lnsT (a,b,c,s) V T) i) i k) (by omega) hb (show k ≤ 4000 by omega) (show i < 1000 by omega)).trans (by rw [ckL,Nat.add_assoc])
   try have z392:=qbk hi2
   try have z393:=qbf hi2
   try have z394:=qbk hk2
   try have z395:=qbf hk2
   repeat ((first|refine qa2 (nthP gr) ?_|refine qa2 (qdg hk2) ?_|refine qa5 ‹_› ?_|refine qa4 ‹_› ?_|refine pkT ‹_› ?_|refine qax ‹_› ?_|refine qa9 ‹_› ?_|refine qbc ‹_› ?_|refine pkF ‹_› ?_|refine qar ‹_› ?_|refine qaq hS (by kernel_rfl) ?_);conv => whnf)
   exact ⟨k + 1,hk2,by omega,Nat.le_refl _,(zhg 25)⟩
  ·have hkE:k = (gB (lnsT (a,b,c,s) V T) i).length :=by omega
   have o1 :=qc3 sW i
   have o2 :=qbv o1 hs
   have o3 :=qbv o2 (Nat.le_refl ([10]:List UInt8).length)
   have o4:(ouB (lnsT (a,b,c,s) V T) i ++ gB (lnsT (a,b,c,s) V T) i).length ≤ 100000000 :=by omega
   have o5:((ouB (lnsT (a,b,c,s) V T) i ++ gB (lnsT (a,b,c,s) V T) i) ++ [10]).length ≤ 100000000 :=by simp only [List.length_cons,List.length_nil] at o3;omega
   have eO:AV.str ((ouB (lnsT (a,b,c,s) V T) i ++ gB (lnsT (a,b,c,s) V T) i) ++ [10]) = .str (ouB (lnsT (a,b,c,s) V T) (i + 1)) :=by rw [ouB,List.append_assoc]
   have hkf:decide (Int.ofNat k < Int.ofNat (gB (lnsT (a,b,c,s) V T) i).length) = false :=qb9 hk2
   try have z396:=qbk hi2
   try have z397:=qbf hi2
   repeat ((first|refine qa2 (nthP gr) ?_|refine qa5 ‹_› ?_|refine qa4 ‹_› ?_|refine pkT ‹_› ?_|refine qax ‹_› ?_|refine qa9 ‹_› ?_|refine qbc ‹_› ?_|refine pkF ‹_› ?_|refine qar ‹_› ?_|refine qaq hS (by kernel_rfl) ?_);conv => whnf)
   refine .inl ?_
   conv => whnf
   try have z398:=qbf hi2
   try have z399:=qb5 o4
   try have z400:=qb5 o5
   repeat ((first|refine qa2 (nthP gr) ?_|refine qa5 ‹_› ?_|refine qa4 ‹_› ?_|refine pkT ‹_› ?_|refine qax ‹_› ?_|refine qa9 ‹_› ?_|refine qbc ‹_› ?_|refine pkF ‹_› ?_|refine qar ‹_› ?_|refine qaq hS (by kernel_rfl) ?_);conv => whnf)
   exact ⟨i + 1,hi2,by omega,Nat.le_refl _,(zhg 25)⟩
 have hiE2:i = (lnsT (a,b,c,s) V T).length :=by rw [qdh];omega
 have t :=qe4 (ckN (lnsT (a,b,c,s) V T) i)
 have hm :=Nat.mod_lt (ckN (lnsT (a,b,c,s) V T) i) (show 0 < 109 by decide)
 have p1 :=rdW t.1 (by omega)
 have p2 :=rdW t.2.1 (by omega)
 have p3 :=rdW t.2.2 (by omega)
 have o1 :=qc3 sW i
 have o2:(ouB (lnsT (a,b,c,s) V T) i ++ [101,110,100,32]).length ≤ 5000000 :=by rw [List.length_append];show _ + 4 ≤ _;omega
 have o3 :=qbv o2 (qb8 (ckN (lnsT (a,b,c,s) V T) i % 109 / 100))
 have o4 :=qbv o3 (qb8 (ckN (lnsT (a,b,c,s) V T) i % 109 / 10 % 10))
 have o5 :=qbv o4 (qb8 (ckN (lnsT (a,b,c,s) V T) i % 109 % 10))
 have o6 :=qbv o5 (Nat.le_refl ([10]:List UInt8).length)
 refine qar (qb9 hi2) ?_
 conv => whnf
 refine .inl ?_
 conv => whnf
 try have z401:=qb5 (milB o2 rfl)
 try have z402:=qb5 (milB o3 rfl)
 try have z403:=qb5 (milB o4 rfl)
 try have z404:=qb5 (milB o5 rfl)
 try have z405:=qb5 (milB o6 rfl)
 repeat ((first|refine qa5 ‹_› ?_|refine qa4 ‹_› ?_|refine pkT ‹_› ?_|refine qax ‹_› ?_|refine qa9 ‹_› ?_|refine qbc ‹_› ?_|refine pkF ‹_› ?_|refine qar ‹_› ?_|refine qav hC (p1) ?_|refine qav hC (p2) ?_|refine qav hC (p3) ?_|refine qaq hS (by kernel_rfl) ?_);conv => whnf)
 exact ⟨_,rfl,wk_s (by unfold prtT finB;rw [← hiE2])⟩
theorem qth {a b c s:Nat} {V:List Nat} {T:List (List (Nat × Nat))} (hV0:V = []) (o:okR (a,b,c,s) V T) (hw:ShW (a,b,c,s) V T):Pure prog 13 [.agg [nv a,nv b,nv c,nv s,.nils],.lst (xqs T) T.length .no] (.str (prtT (a,b,c,s) V T)) :=by
 have hs:1 ≤ s ∧ s ≤ 3 :=o.1.2
 have hs4:s < 4 :=by omega
 have gs :=qov hs
 have q1 :=qcl (n :=a) o.1.1.1
 have q2 :=qcl (n :=b) o.1.1.2.1
 have q3 :=qcl (n :=c) o.1.1.2.2
 have g1 :=qbv (kle rfl:([114,117,108,101,32]:List UInt8).length ≤ 5) (qb8 a)
 have g2 :=qbv g1 (Nat.le_refl ([32]:List UInt8).length)
 have g3 :=qbv g2 (qb8 b)
 have g4 :=qbv g3 (Nat.le_refl ([32]:List UInt8).length)
 have g5 :=qbv g4 (qb8 c)
 have g6 :=qbv g5 (Nat.le_refl ([32]:List UInt8).length)
 have g7 :=qbv g6 (qnn s)
 have lV :=qby (zl V)
 have lT :=qdt T
 have hV9 :=hw.hV
 have hT9 :=hw.hT
 have sW :=hw.le
 refine qbg hE rfl (by repeat' first|exact trivial|assumption|exact qa3 _|exact fun _ h => nomatch h|apply And.intro) (by repeat' first|exact trivial|assumption|exact qa3 _|exact fun _ h => nomatch h|apply And.intro) fun S q pc hS hq hC hE => ?_
 conv => whnf
 try have z406:=qbf hs4
 try have z407:=qb5 (milB g1 rfl)
 try have z408:=qb5 (milB g2 rfl)
 try have z409:=qb5 (milB g3 rfl)
 try have z410:=qb5 (milB g4 rfl)
 try have z411:=qb5 (milB g5 rfl)
 try have z412:=qb5 (milB g6 rfl)
 try have z413:=qb5 (milB g7 rfl)
 repeat ((first|refine qa2 (nthP gs) ?_|refine qa5 ‹_› ?_|refine qa4 ‹_› ?_|refine pkT ‹_› ?_|refine qax ‹_› ?_|refine qa9 ‹_› ?_|refine qbc ‹_› ?_|refine pkF ‹_› ?_|refine qar ‹_› ?_|refine qav hC (q1) ?_|refine qav hC (q2) ?_|refine qav hC (q3) ?_|refine qav hC (qbz) ?_|refine qaq hS (by kernel_rfl) ?_);conv => whnf)
 refine qa6 hE hS ?_
 conv => whnf
 repeat ((first|refine qaq hS (by kernel_rfl) ?_);conv => whnf)
 have eV:AV.str [110,101,118,101,114] = .str (lnW qct V) :=by rw [hV0];rfl
 have eR0:AV.lst [.str ((((((([114,117,108,101,32] ++ dec a) ++ [32]) ++ dec b) ++ [32]) ++ dec c) ++ [32]) ++ qc9 s),.str [110,101,118,101,114]] 2 (.ch 24) = .lst (rwS (a,b,c,s) V (T.take 0)) (0 + 2) (.ch 24) :=by
  rw [qom,AV.str.inj eV];rfl
 refine qbh hE hS (A :=Nat) [1] (fun i => [(5,.lst (rwS (a,b,c,s) V (T.take i)) (i + 2) (.ch 24)),(8,nv i)]) (fun i => [(24,.chain (i + 2) 1 9)]) (fun _ => []) (fun i => i ≤ T.length) (fun i => T.length - i) 0 (kle rfl) rfl (zhg 25) (Nat.zero_le _) ?_
 intro i hi K hK
 obtain rfl:K = 25 :=hK
 conv => whnf
 by_cases hi2:i < T.length
 ·have hi1:IntKind.i64.wrap (Int.ofNat i + 1) = Int.ofNat (i + 1) :=qbr (m :=i + 1) (by omega)
  have gx :=qgj T hi2
  have hm:gT T i ∈ T :=qhj hi2
  have ht9 :=hw.ht _ hm
  have hlt :=o.2.2 _ hm
  have d1:decide ((i + 2 + (0 + 1)) * 16 ≤ 140737488355328) = true :=decide_eq_true (by omega)
  have d2:decide (i + 2 + (0 + 1) ≤ 9223372036854775807) = true :=decide_eq_true (by omega)
  have d3 :=qlp (r :=(a,b,c,s)) (V :=V) (T :=T.take i) (n :=i + 2) (by rw [List.length_take];omega)
  have d4:decide (i + 2 = i + 2) = true :=decide_eq_true rfl
  obtain ⟨t,et⟩ : ∃ t,t = gT T i :=⟨_,rfl⟩
  rw [← et] at gx ht9 hlt
  refine Or.elim (Classical.em (t = [])) (fun ht0 => ?_) fun ht0 => ?_
  ·have eX:xqV t = .nils :=if_pos ht0
   rw [eX] at gx
   have e2 :=qj6 (a,b,c,s) V T hi2
   rw [← et,show lnT t = [116,114,97,105,110] by rw [ht0];rfl] at e2
   try have z414:=qbk hi2
   try have z415:=qbf hi2
   repeat ((first|refine qa2 (nthP gx) ?_|refine qa5 ‹_› ?_|refine qa4 ‹_› ?_|refine pkT ‹_› ?_|refine qax ‹_› ?_|refine qa9 ‹_› ?_|refine qbc ‹_› ?_|refine pkF ‹_› ?_|refine qar ‹_› ?_|refine qaq hS (by kernel_rfl) ?_);conv => whnf)
   refine qa6 hE hS ?_
   conv => whnf
   try have z416:=qbk hi2
   try have z417:=qbf hi2
   repeat ((first|refine qa2 (nthP gx) ?_|refine qa5 ‹_› ?_|refine qa4 ‹_› ?_|refine pkT ‹_› ?_|refine qax ‹_› ?_|refine qa9 ‹_› ?_|refine qbc ‹_› ?_|refine pkF ‹_› ?_|refine qar ‹_› ?_|refine qaq hS (by kernel_rfl) ?_);conv => whnf)
   exact ⟨i + 1,hi2,by omega,kle rfl,(zhg 25)⟩
  ·have eX:xqV t = pv (zp t) :=if_neg ht0
   rw [eX] at gx
   have lF :=qa3 (zp t)
   try have z418:=qbk hi2
   try have z419:=qbf hi2
   repeat ((first|refine qa2 (nthP gx) ?_|refine qa5 ‹_› ?_|refine qa4 ‹_› ?_|refine pkT ‹_› ?_|refine qax ‹_› ?_|refine qa9 ‹_› ?_|refine qbc ‹_› ?_|refine pkF ‹_› ?_|refine qar ‹_› ?_|refine qaq hS (by kernel_rfl) ?_);conv => whnf)
   refine qbh hE hS (A :=Nat) [1,5,8] (fun j => [(9,.str (lnW qdj (flN (t.take j)))),(10,nv j)]) (fun _ => []) (fun _ => []) (fun j => j ≤ t.length) (fun j => t.length - j) 0 (kle rfl) rfl (zhg 25) (Nat.zero_le _) ?_
   intro j hj K hK
   obtain rfl:K = 25 :=hK
   conv => whnf
   by_cases hj2:j < t.length
   ·have hj1:IntKind.i64.wrap (Int.ofNat j + 1) = Int.ofNat (j + 1) :=qbr (m :=j + 1) (by omega)
    have hjz:j < (zp t).length :=by rw [qew];exact hj2
    have gf :=qko (zp t) hjz
    have gz:gpr (zp t) j = (Int.ofNat (gq t j).1,Int.ofNat (gq t j).2) :=by simp [gpr,gq,zp,List.getD,hj2]
    rw [gz] at gf
    have hl :=qv8 hlt hj2
    have p1 :=qcl hl.1
    have p2 :=qcl hl.2
    have f1 :=qbv (qv9 (t :=t) (j :=j) (by omega)) (Nat.le_refl ([32]:List UInt8).length)
    have f2 :=qbv f1 (qb8 (gq t j).1)
    have f3 :=qbv f2 (Nat.le_refl ([32]:List UInt8).length)
    have f4 :=qbv f3 (qb8 (gq t j).2)
    have e3 :=congrArg AV.str (lnT2 t hj2)
    try have z420:=qbk hi2
    try have z421:=qbf hi2
    try have z422:=qbk hjz
    try have z423:=qbf hjz
    try have z424:=qb5 (milB f1 rfl)
    try have z425:=qb5 (milB f2 rfl)
    try have z426:=qb5 (milB f3 rfl)
    try have z427:=qb5 (milB f4 rfl)
    repeat ((first|refine qa2 (nthP gx) ?_|refine qa2 (nthP gf.1) ?_|refine qa2 (nthP gf.2) ?_|refine qa5 ‹_› ?_|refine qa4 ‹_› ?_|refine pkT ‹_› ?_|refine qax ‹_› ?_|refine qa9 ‹_› ?_|refine qbc ‹_› ?_|refine pkF ‹_› ?_|refine qar ‹_› ?_|refine qav hC (p1) ?_|refine qav hC (p2) ?_|refine qaq hS (by kernel_rfl) ?_);conv => whnf)
    exact ⟨j + 1,hj2,by omega,kle rfl,(zhg 25)⟩
   ·have hjE:j = t.length :=by omega
    have e2 :=qj6 (a,b,c,s) V T hi2
    rw [← et,show lnT t = lnW qdj (flN (t.take j)) by rw [hjE,List.take_length];rfl] at e2
    have hjz:¬ j < (zp t).length :=by rw [qew];exact hj2
    have hjf:decide (Int.ofNat j < Int.ofNat (zp t).length) = false :=qb9 hjz
    try have z428:=qbk hi2
    try have z429:=qbf hi2
    repeat ((first|refine qa2 (nthP gx) ?_|refine qa5 ‹_› ?_|refine qa4 ‹_› ?_|refine pkT ‹_› ?_|refine qax ‹_› ?_|refine qa9 ‹_› ?_|refine qbc ‹_› ?_|refine pkF ‹_› ?_|refine qar ‹_› ?_|refine qaq hS (by kernel_rfl) ?_);conv => whnf)
    refine .inl ?_
    conv => whnf
    repeat ((first|refine qa5 ‹_› ?_|refine qa4 ‹_› ?_|refine pkT ‹_› ?_|refine qax ‹_› ?_|refine qa9 ‹_› ?_|refine qbc ‹_› ?_|refine pkF ‹_› ?_|refine qar ‹_› ?_|refine qaq hS (by kernel_rfl) ?_);conv => whnf)
    exact ⟨i + 1,hi2,by omega,kle rfl,(zhg 25)⟩
 refine qar (qb9 hi2) ?_
 conv => whnf
 refine .inl ?_
 conv => whnf
 have eR:AV.lst (rwS (a,b,c,s) V (T.take i)) (i + 2) (.ch 24) = .lst (rwS (a,b,c,s) V T) (T.length + 2) (.ch 24) :=by rw [show i = T.length by omega,List.take_length]
 repeat ((first|refine qaq hS (by kernel_rfl) ?_);conv => whnf)
 refine qbh hE hS (A :=Nat) [] (fun i => [(5,.lst (rwS (a,b,c,s) V T) (T.length + 2) (.ch 24)),(11,.str (ouB (lnsT (a,b,c,s) V T) i)),(12,nv (ckN (lnsT (a,b,c,s) V T) i)),(13,nv i)]) (fun _ => []) (fun _ => []) (fun i => i ≤ T.length + 2) (fun i => T.length + 2 - i) 0 (kle rfl) rfl (zhg 25) (Nat.zero_le _) ?_
 intro i hi K hK
 obtain rfl:K = 25 :=hK
 conv => whnf
 by_cases hi2:i < T.length + 2
 ·have hi1:IntKind.i64.wrap (Int.ofNat i + 1) = Int.ofNat (i + 1) :=qbr (m :=i + 1) (by omega)
  have hs :=sW i
  have gr :=qkn (a,b,c,s) V T hi2
  have hw :=qeq sW i (by omega)
  try have z430:=qbk hi2
  try have z431:=qbf hi2
  repeat ((first|refine qa2 (nthP gr) ?_|refine qa5 ‹_› ?_|refine qa4 ‹_› ?_|refine pkT ‹_› ?_|refine qax ‹_› ?_|refine qa9 ‹_› ?_|refine qbc ‹_› ?_|refine pkF ‹_› ?_|refine qar ‹_› ?_|refine qaq hS (by kernel_rfl) ?_);conv => whnf)
  refine qbh hE hS (A :=Nat) [5,11,13] (fun k => [(12,nv (ckN (lnsT (a,b,c,s) V T) i + ckL (gB (lnsT (a,b,c,s) V T) i) i k)),(14,nv k)]) (fun _ => []) (fun _ => []) (fun k => k ≤ (gB (lnsT (a,b,c,s) V T) i).length) (fun k => (gB (lnsT (a,b,c,s) V T) i).length - k) 0 (kle rfl) rfl (zhg 25) (Nat.zero_le _) ?_
  intro k hk K hK
  obtain rfl:K = 25 :=hK
  conv => whnf
  by_cases hk2:k < (gB (lnsT (a,b,c,s) V T) i).length
  ·have hk1:IntKind.i64.wrap (Int.ofNat k + 1) = Int.ofNat (k + 1) :=qbr (m :=k + 1) (by omega)
   have hc :=qer (s :=gB (lnsT (a,b,c,s) V T) i) (i :=i) (k :=k) (by omega) (by omega)
   have hb:((gB (lnsT (a,b,c,s) V T) i).getD k 0).toNat ≤ 256 :=Nat.le_of_lt (UInt8.toNat_lt _)
   have ew:_ = Int.ofNat (ckN (lnsT (a,b,c,s) V T) i + ckL (gB (lnsT (a,b,c,s) V T) i) i (k + 1)) :=(qec (c :=ckN (lnsT (a,b,c,s) V T) i + ckL (gB (lnsT (a,b,c,s) V T) i) i k) (by omega) hb (show k ≤ 4000 by omega) (show i < 1000 by omega)).trans (by rw [ckL,Nat.add_assoc])
   try have z432:=qbk hi2
   try have z433:=qbf hi2
   try have z434:=qbk hk2
   try have z435:=qbf hk2
   repeat ((first|refine qa2 (nthP gr) ?_|refine qa2 (qdg hk2) ?_|refine qa5 ‹_› ?_|refine qa4 ‹_› ?_|refine pkT ‹_› ?_|refine qax ‹_› ?_|refine qa9 ‹_› ?_|refine qbc ‹_› ?_|refine pkF ‹_› ?_|refine qar ‹_› ?_|refine qaq hS (by kernel_rfl) ?_);conv => whnf)
   exact ⟨k + 1,hk2,by omega,Nat.le_refl _,(zhg 25)⟩
  ·have hkE:k = (gB (lnsT (a,b,c,s) V T) i).length :=by omega
   have o1 :=qc3 sW i
   have o2 :=qbv o1 hs
   have o3 :=qbv o2 (Nat.le_refl ([10]:List UInt8).length)
   have o4:(ouB (lnsT (a,b,c,s) V T) i ++ gB (lnsT (a,b,c,s) V T) i).length ≤ 100000000 :=by omega
   have o5:((ouB (lnsT (a,b,c,s) V T) i ++ gB (lnsT (a,b,c,s) V T) i) ++ [10]).length ≤ 100000000 :=by simp only [List.length_cons,List.length_nil] at o3;omega
   have eO:AV.str ((ouB (lnsT (a,b,c,s) V T) i ++ gB (lnsT (a,b,c,s) V T) i) ++ [10]) = .str (ouB (lnsT (a,b,c,s) V T) (i + 1)) :=by rw [ouB,List.append_assoc]
   have hkf:decide (Int.ofNat k < Int.ofNat (gB (lnsT (a,b,c,s) V T) i).length) = false :=qb9 hk2
   try have z436:=qbk hi2
   try have z437:=qbf hi2
   repeat ((first|refine qa2 (nthP gr) ?_|refine qa5 ‹_› ?_|refine qa4 ‹_› ?_|refine pkT ‹_› ?_|refine qax ‹_› ?_|refine qa9 ‹_› ?_|refine qbc ‹_› ?_|refine pkF ‹_› ?_|refine qar ‹_› ?_|refine qaq hS (by kernel_rfl) ?_);conv => whnf)
   refine .inl ?_
   conv => whnf
   try have z438:=qbf hi2
   try have z439:=qb5 o4
   try have z440:=qb5 o5
   repeat ((first|refine qa2 (nthP gr) ?_|refine qa5 ‹_› ?_|refine qa4 ‹_› ?_|refine pkT ‹_› ?_|refine qax ‹_› ?_|refine qa9 ‹_› ?_|refine qbc ‹_› ?_|refine pkF ‹_› ?_|refine qar ‹_› ?_|refine qaq hS (by kernel_rfl) ?_);conv => whnf)
   exact ⟨i + 1,hi2,by omega,Nat.le_refl _,(zhg 25)⟩
 have hiE2:i = (lnsT (a,b,c,s) V T).length :=by rw [qdh];omega
 have t :=qe4 (ckN (lnsT (a,b,c,s) V T) i)
 have hm :=Nat.mod_lt (ckN (lnsT (a,b,c,s) V T) i) (show 0 < 109 by decide)
 have p1 :=rdW t.1 (by omega)
 have p2 :=rdW t.2.1 (by omega)
 have p3 :=rdW t.2.2 (by omega)
 have o1 :=qc3 sW i
 have o2:(ouB (lnsT (a,b,c,s) V T) i ++ [101,110,100,32]).length ≤ 5000000 :=by rw [List.length_append];show _ + 4 ≤ _;omega
 have o3 :=qbv o2 (qb8 (ckN (lnsT (a,b,c,s) V T) i % 109 / 100))
 have o4 :=qbv o3 (qb8 (ckN (lnsT (a,b,c,s) V T) i % 109 / 10 % 10))
 have o5 :=qbv o4 (qb8 (ckN (lnsT (a,b,c,s) V T) i % 109 % 10))
 have o6 :=qbv o5 (Nat.le_refl ([10]:List UInt8).length)
 refine qar (qb9 hi2) ?_
 conv => whnf
 refine .inl ?_
 conv => whnf
 try have z441:=qb5 (milB o2 rfl)
 try have z442:=qb5 (milB o3 rfl)
 try have z443:=qb5 (milB o4 rfl)
 try have z444:=qb5 (milB o5 rfl)
 try have z445:=qb5 (milB o6 rfl)
 repeat ((first|refine qa5 ‹_› ?_|refine qa4 ‹_› ?_|refine pkT ‹_› ?_|refine qax ‹_› ?_|refine qa9 ‹_› ?_|refine qbc ‹_› ?_|refine pkF ‹_› ?_|refine qar ‹_› ?_|refine qav hC (p1) ?_|refine qav hC (p2) ?_|refine qav hC (p3) ?_|refine qaq hS (by kernel_rfl) ?_);conv => whnf)
 exact ⟨_,rfl,wk_s (by unfold prtT finB;rw [← hiE2])⟩
theorem qtg {a b c s:Nat} {V:List Nat} {T:List (List (Nat × Nat))} (hV0:V = []) (hT0:T = []) (o:okR (a,b,c,s) V T) (hw:ShW (a,b,c,s) V T):Pure prog 13 [.agg [nv a,nv b,nv c,nv s,.nils],.nils] (.str (prtT (a,b,c,s) V T)) :=by
 have hs:1 ≤ s ∧ s ≤ 3 :=o.1.2
 have hs4:s < 4 :=by omega
 have gs :=qov hs
 have q1 :=qcl (n :=a) o.1.1.1
 have q2 :=qcl (n :=b) o.1.1.2.1
 have q3 :=qcl (n :=c) o.1.1.2.2
 have g1 :=qbv (kle rfl:([114,117,108,101,32]:List UInt8).length ≤ 5) (qb8 a)
 have g2 :=qbv g1 (Nat.le_refl ([32]:List UInt8).length)
 have g3 :=qbv g2 (qb8 b)
 have g4 :=qbv g3 (Nat.le_refl ([32]:List UInt8).length)
 have g5 :=qbv g4 (qb8 c)
 have g6 :=qbv g5 (Nat.le_refl ([32]:List UInt8).length)
 have g7 :=qbv g6 (qnn s)
 have lV :=qby (zl V)
 have lT :=qdt T
 have hV9 :=hw.hV
 have hT9 :=hw.hT
 have sW :=hw.le
 refine qbg hE rfl (by repeat' first|exact trivial|assumption|exact qa3 _|exact fun _ h => nomatch h|apply And.intro) (by repeat' first|exact trivial|assumption|exact qa3 _|exact fun _ h => nomatch h|apply And.intro) fun S q pc hS hq hC hE => ?_
 conv => whnf
 try have z446:=qbf hs4
 try have z447:=qb5 (milB g1 rfl)
 try have z448:=qb5 (milB g2 rfl)
 try have z449:=qb5 (milB g3 rfl)
 try have z450:=qb5 (milB g4 rfl)
 try have z451:=qb5 (milB g5 rfl)
 try have z452:=qb5 (milB g6 rfl)
 try have z453:=qb5 (milB g7 rfl)
 repeat ((first|refine qa2 (nthP gs) ?_|refine qa5 ‹_› ?_|refine qa4 ‹_› ?_|refine pkT ‹_› ?_|refine qax ‹_› ?_|refine qa9 ‹_› ?_|refine qbc ‹_› ?_|refine pkF ‹_› ?_|refine qar ‹_› ?_|refine qav hC (q1) ?_|refine qav hC (q2) ?_|refine qav hC (q3) ?_|refine qav hC (qbz) ?_|refine qaq hS (by kernel_rfl) ?_);conv => whnf)
 refine qa6 hE hS ?_
 conv => whnf
 repeat ((first|refine qaq hS (by kernel_rfl) ?_);conv => whnf)
 have eV:AV.str [110,101,118,101,114] = .str (lnW qct V) :=by rw [hV0];rfl
 have eR:AV.lst [.str ((((((([114,117,108,101,32] ++ dec a) ++ [32]) ++ dec b) ++ [32]) ++ dec c) ++ [32]) ++ qc9 s),.str [110,101,118,101,114]] 2 (.ch 24) = .lst (rwS (a,b,c,s) V T) (T.length + 2) (.ch 24) :=by
  rw [qom,AV.str.inj eV,hT0];rfl
 refine qa6 hE hS ?_
 conv => whnf
 repeat ((first|refine qaq hS (by kernel_rfl) ?_);conv => whnf)
 refine qbh hE hS (A :=Nat) [] (fun i => [(5,.lst (rwS (a,b,c,s) V T) (T.length + 2) (.ch 24)),(11,.str (ouB (lnsT (a,b,c,s) V T) i)),(12,nv (ckN (lnsT (a,b,c,s) V T) i)),(13,nv i)]) (fun _ => []) (fun _ => []) (fun i => i ≤ T.length + 2) (fun i => T.length + 2 - i) 0 (kle rfl) rfl (zhg 25) (Nat.zero_le _) ?_
 intro i hi K hK
 obtain rfl:K = 25 :=hK
 conv => whnf
 by_cases hi2:i < T.length + 2
 ·have hi1:IntKind.i64.wrap (Int.ofNat i + 1) = Int.ofNat (i + 1) :=qbr (m :=i + 1) (by omega)
  have hs :=sW i
  have gr :=qkn (a,b,c,s) V T hi2
  have hw :=qeq sW i (by omega)
  try have z454:=qbk hi2
  try have z455:=qbf hi2
  repeat ((first|refine qa2 (nthP gr) ?_|refine qa5 ‹_› ?_|refine qa4 ‹_› ?_|refine pkT ‹_› ?_|refine qax ‹_› ?_|refine qa9 ‹_› ?_|refine qbc ‹_› ?_|refine pkF ‹_› ?_|refine qar ‹_› ?_|refine qaq hS (by kernel_rfl) ?_);conv => whnf)
  refine qbh hE hS (A :=Nat) [5,11,13] (fun k => [(12,nv (ckN (lnsT (a,b,c,s) V T) i + ckL (gB (lnsT (a,b,c,s) V T) i) i k)),(14,nv k)]) (fun _ => []) (fun _ => []) (fun k => k ≤ (gB (lnsT (a,b,c,s) V T) i).length) (fun k => (gB (lnsT (a,b,c,s) V T) i).length - k) 0 (kle rfl) rfl (zhg 25) (Nat.zero_le _) ?_
  intro k hk K hK
  obtain rfl:K = 25 :=hK
  conv => whnf
  by_cases hk2:k < (gB (lnsT (a,b,c,s) V T) i).length
  ·have hk1:IntKind.i64.wrap (Int.ofNat k + 1) = Int.ofNat (k + 1) :=qbr (m :=k + 1) (by omega)
   have hc :=qer (s :=gB (lnsT (a,b,c,s) V T) i) (i :=i) (k :=k) (by omega) (by omega)
   have hb:((gB (lnsT (a,b,c,s) V T) i).getD k 0).toNat ≤ 256 :=Nat.le_of_lt (UInt8.toNat_lt _)
   have ew:_ = Int.ofNat (ckN (lnsT (a,b,c,s) V T) i + ckL (gB (lnsT (a,b,c,s) V T) i) i (k + 1)) :=(qec (c :=ckN (lnsT (a,b,c,s) V T) i + ckL (gB (lnsT (a,b,c,s) V T) i) i k) (by omega) hb (show k ≤ 4000 by omega) (show i < 1000 by omega)).trans (by rw [ckL,Nat.add_assoc])
   try have z456:=qbk hi2
   try have z457:=qbf hi2
   try have z458:=qbk hk2
   try have z459:=qbf hk2
   repeat ((first|refine qa2 (nthP gr) ?_|refine qa2 (qdg hk2) ?_|refine qa5 ‹_› ?_|refine qa4 ‹_› ?_|refine pkT ‹_› ?_|refine qax ‹_› ?_|refine qa9 ‹_› ?_|refine qbc ‹_› ?_|refine pkF ‹_› ?_|refine qar ‹_› ?_|refine qaq hS (by kernel_rfl) ?_);conv => whnf)
   exact ⟨k + 1,hk2,by omega,Nat.le_refl _,(zhg 25)⟩
  ·have hkE:k = (gB (lnsT (a,b,c,s) V T) i).length :=by omega
   have o1 :=qc3 sW i
   have o2 :=qbv o1 hs
   have o3 :=qbv o2 (Nat.le_refl ([10]:List UInt8).length)
   have o4:(ouB (lnsT (a,b,c,s) V T) i ++ gB (lnsT (a,b,c,s) V T) i).length ≤ 100000000 :=by omega
   have o5:((ouB (lnsT (a,b,c,s) V T) i ++ gB (lnsT (a,b,c,s) V T) i) ++ [10]).length ≤ 100000000 :=by simp only [List.length_cons,List.length_nil] at o3;omega
   have eO:AV.str ((ouB (lnsT (a,b,c,s) V T) i ++ gB (lnsT (a,b,c,s) V T) i) ++ [10]) = .str (ouB (lnsT (a,b,c,s) V T) (i + 1)) :=by rw [ouB,List.append_assoc]
   have hkf:decide (Int.ofNat k < Int.ofNat (gB (lnsT (a,b,c,s) V T) i).length) = false :=qb9 hk2
   try have z460:=qbk hi2
   try have z461:=qbf hi2
   repeat ((first|refine qa2 (nthP gr) ?_|refine qa5 ‹_› ?_|refine qa4 ‹_› ?_|refine pkT ‹_› ?_|refine qax ‹_› ?_|refine qa9 ‹_› ?_|refine qbc ‹_› ?_|refine pkF ‹_› ?_|refine qar ‹_› ?_|refine qaq hS (by kernel_rfl) ?_);conv => whnf)
   refine .inl ?_
   conv => whnf
   try have z462:=qbf hi2
   try have z463:=qb5 o4
   try have z464:=qb5 o5
   repeat ((first|refine qa2 (nthP gr) ?_|refine qa5 ‹_› ?_|refine qa4 ‹_› ?_|refine pkT ‹_› ?_|refine qax ‹_› ?_|refine qa9 ‹_› ?_|refine qbc ‹_› ?_|refine pkF ‹_› ?_|refine qar ‹_› ?_|refine qaq hS (by kernel_rfl) ?_);conv => whnf)
   exact ⟨i + 1,hi2,by omega,Nat.le_refl _,(zhg 25)⟩
 have hiE2:i = (lnsT (a,b,c,s) V T).length :=by rw [qdh];omega
 have t :=qe4 (ckN (lnsT (a,b,c,s) V T) i)
 have hm :=Nat.mod_lt (ckN (lnsT (a,b,c,s) V T) i) (show 0 < 109 by decide)
 have p1 :=rdW t.1 (by omega)
 have p2 :=rdW t.2.1 (by omega)
 have p3 :=rdW t.2.2 (by omega)
 have o1 :=qc3 sW i
 have o2:(ouB (lnsT (a,b,c,s) V T) i ++ [101,110,100,32]).length ≤ 5000000 :=by rw [List.length_append];show _ + 4 ≤ _;omega
 have o3 :=qbv o2 (qb8 (ckN (lnsT (a,b,c,s) V T) i % 109 / 100))
 have o4 :=qbv o3 (qb8 (ckN (lnsT (a,b,c,s) V T) i % 109 / 10 % 10))
 have o5 :=qbv o4 (qb8 (ckN (lnsT (a,b,c,s) V T) i % 109 % 10))
 have o6 :=qbv o5 (Nat.le_refl ([10]:List UInt8).length)
 refine qar (qb9 hi2) ?_
 conv => whnf
 refine .inl ?_
 conv => whnf
 try have z465:=qb5 (milB o2 rfl)
 try have z466:=qb5 (milB o3 rfl)
 try have z467:=qb5 (milB o4 rfl)
 try have z468:=qb5 (milB o5 rfl)
 try have z469:=qb5 (milB o6 rfl)
 repeat ((first|refine qa5 ‹_› ?_|refine qa4 ‹_› ?_|refine pkT ‹_› ?_|refine qax ‹_› ?_|refine qa9 ‹_› ?_|refine qbc ‹_› ?_|refine pkF ‹_› ?_|refine qar ‹_› ?_|refine qav hC (p1) ?_|refine qav hC (p2) ?_|refine qav hC (p3) ?_|refine qaq hS (by kernel_rfl) ?_);conv => whnf)
 exact ⟨_,rfl,wk_s (by unfold prtT finB;rw [← hiE2])⟩
theorem ql1 {r:TrR} {N X:AV} {V:List Nat} {T:List (List (Nat × Nat))} (hN:IL N (zl V)) (hX:TQ X T) (o:okR r V T) (hw:ShW r V T):Pure prog 13 [.agg [nv r.1,nv r.2.1,nv r.2.2.1,nv r.2.2.2,N],X] (.str (prtT r V T)) :=by
 obtain ⟨a,b,c,s⟩ :=r
 rcases hN with ⟨rfl,e⟩ | rfl <;> rcases hX with ⟨rfl,e2⟩ | rfl
 ·exact qtg (List.map_eq_nil_iff.1 e) e2 o hw
 ·exact qth (List.map_eq_nil_iff.1 e) o hw
 ·exact qti e2 o hw
 ·exact qtj o hw
end
end Go.Abs.Seat
