/-
  A text, as the document reads it: it is written otherwise.
-/
import Derived.Test.YtnimgfkggbnjoaaGreatDoorXB1470
namespace Go.Abs.Seat
noncomputable section
open Go Go.Abs Go.Proofs.Tryz
set_option maxRecDepth 100000
set_option maxHeartbeats 40000000
attribute [local irreducible] pEq qco IntKind.wrap
theorem qw6 {s:List UInt8} {p0 p1 p2 p3 p4 q0:List UInt8} {l1:List (List UInt8)} {a b c n:Nat} {N:AV} {V:List Nat} {T:List (List (Nat × Nat))} (hs:s.length ≤ 500) (h4:n + 4 = (spl 10 s).length) (h:PyH (spl 10 s) p0 p1 p2 p3 p4 q0 l1 a b c N) (hN:IL N (zl V)) (hTn:T.length = n) (hT:∀ i,i < T.length → RxH (spl 10 s) i (gT T i)) (h3:a < 1000 ∧ b < 1000 ∧ c < 1000) (hV:∀ n,n ∈ V → n < 1000) (hVl:V.length ≤ 900) (hd:sV p4 4 ≠ 0) (he:prtT (a,b,c,sV p4 4) V T ≠ s):Pure prog 16 [.str s] zrX :=by
 have pS :=qda s 10 (by omega)
 have lS :=qbs (spl 10 s)
 have hl :=qc7 10 s
 obtain ⟨L,hL⟩ : ∃ L,L = spl 10 s :=⟨_,rfl⟩
 rw [← hL] at h h4 hT pS lS hl
 have ir0:inR 0 L.length = true :=qbf (i :=0) (by omega)
 have ir1:inR 1 L.length = true :=qbf (i :=1) (by omega)
 have n0:nth (stA L) (0:Int).toNat = some (.str (gB L 0)) :=qb2 (l :=L) (i :=0) (by omega)
 have n1:nth (stA L) (1:Int).toNat = some (.str (gB L 1)) :=qb2 (l :=L) (i :=1) (by omega)
 have g4:decide ((L.length:Int) < 4) = false :=decide_eq_false (by omega)
 have w2:IntKind.i64.wrap ((L.length:Int) - 2) = Int.ofNat (n + 2) :=by rw [← h4];exact (qfs (by omega) (by omega)).trans (by simp only [Int.ofNat_eq_natCast];omega)
 have s0 :=h.s0
 have m0 :=h.n0
 have s1 :=h.s1
 have m1 :=h.n1
 have lX :=qbs [p0,p1,p2,p3,p4]
 have lL1 :=qbs (q0 :: l1)
 have lN :=hN.no
 have hNI :=hN
 have lN2 :=qby (zl V)
 have d3 :=sV_1 hd
 have oR :=qr0 h3 d3.2 hV hT
 have sW :=qvx (r :=(a,b,c,sV p4 4)) hVl (show T.length ≤ 900 by omega) hT
 have te:(!(prtT (a,b,c,sV p4 4) V T == s)) = true :=by rw [beq_eq_false_iff_ne.2 he];rfl
 have z0:(Int.ofNat (sV p4 4) == 0) = false :=beq_eq_false_iff_ne.2 fun z => hd (Int.ofNat.inj z)
 rcases hN with ⟨rfl,_⟩ | rfl
 ·refine qbg hE rfl (by repeat' first|exact trivial|assumption|exact qa3 _|exact fun _ h => nomatch h|apply And.intro) (by repeat' first|exact trivial|assumption|exact qa3 _|exact fun _ h => nomatch h|apply And.intro) fun S q pc hS hq hC hE => ?_
  conv => whnf
  repeat ((first|refine qa2 (nthP n0) ?_|refine qa5 ‹_› ?_|refine qa4 ‹_› ?_|refine pkT ‹_› ?_|refine qax ‹_› ?_|refine qa9 ‹_› ?_|refine qbc ‹_› ?_|refine pkF ‹_› ?_|refine qar ‹_› ?_|refine qa5 (gff ‹_›) ?_|refine qa4 (gff ‹_›) ?_|refine pkT (gff ‹_›) ?_|refine qax (gff ‹_›) ?_|refine qav hC (pS) ?_|refine qav hC (s0) ?_|refine qaq hS (by kernel_rfl) ?_);conv => whnf)
  refine qa2 (p' :=.chk true (.ret (.lst (stA [p1,p2,p3]) 3 .no))) (by kernel_rfl) ?_
  conv => whnf
  repeat ((first|refine qav hC (m0) ?_|refine qaq hS (by kernel_rfl) ?_);conv => whnf)
  refine qbh hE hS (A :=Nat) [0,2,5,6,7,8] (fun i => [(11,nv i)]) (fun i => [(1,.cells (.node (nv a) (.node (nv b) (.node (nv (sV p4 i)) .nil .nil) .nil) (.node (nv c) (.node (.nils) .nil .nil) .nil)) 5 25)]) (fun _ => []) (fun i => 1 ≤ i ∧ i ≤ 4) (fun i => 4 - i) 1 (kle rfl) rfl (zhg 17) ⟨Nat.le_refl _,by decide⟩ ?_
  intro i ⟨hi,hi4⟩ K hK
  obtain rfl:K = 17 :=hK
  conv => whnf
  by_cases hi2:i < 4
  ·have hi1:IntKind.i64.wrap (Int.ofNat i + 1) = Int.ofNat (i + 1) :=qbr (m :=i + 1) (by omega)
   have gs :=qgt hi2
   by_cases hq:sQ i = p4
   ·have c1:(sQ i == p4) = true :=beq_iff_eq.2 hq
    have eS:AObj.cells (.node (nv a) (.node (nv b) (.node (nv i) .nil .nil) .nil) (.node (nv c) (.node (.nils) .nil .nil) .nil)) 5 25 = .cells (.node (nv a) (.node (nv b) (.node (nv (sV p4 (i + 1))) .nil .nil) .nil) (.node (nv c) (.node (.nils) .nil .nil) .nil)) 5 25 :=by rw [sV,if_pos ⟨hi,hq⟩]
    try have z494:=qbk hi2
    try have z495:=qbf hi2
    repeat ((first|refine qa2 (nthP gs) ?_|refine qa5 ‹_› ?_|refine qa4 ‹_› ?_|refine pkT ‹_› ?_|refine qax ‹_› ?_|refine qa9 ‹_› ?_|refine qbc ‹_› ?_|refine pkF ‹_› ?_|refine qar ‹_› ?_|refine qav hC (qbz) ?_|refine qaq hS (by kernel_rfl) ?_);conv => whnf)
    exact ⟨i + 1,⟨by omega,hi2⟩,by omega,kle rfl,(zhg 17)⟩
   ·have c1:(sQ i == p4) = false :=beq_eq_false_iff_ne.2 hq
    have eS:AObj.cells (.node (nv a) (.node (nv b) (.node (nv (sV p4 i)) .nil .nil) .nil) (.node (nv c) (.node (.nils) .nil .nil) .nil)) 5 25 = .cells (.node (nv a) (.node (nv b) (.node (nv (sV p4 (i + 1))) .nil .nil) .nil) (.node (nv c) (.node (.nils) .nil .nil) .nil)) 5 25 :=by rw [sV,if_neg fun z => hq z.2]
    try have z496:=qbk hi2
    try have z497:=qbf hi2
    repeat ((first|refine qa2 (nthP gs) ?_|refine qa5 ‹_› ?_|refine qa4 ‹_› ?_|refine pkT ‹_› ?_|refine qax ‹_› ?_|refine qa9 ‹_› ?_|refine qbc ‹_› ?_|refine pkF ‹_› ?_|refine qar ‹_› ?_|refine qav hC (qbz) ?_|refine qaq hS (by kernel_rfl) ?_);conv => whnf)
    exact ⟨i + 1,⟨by omega,hi2⟩,by omega,kle rfl,(zhg 17)⟩
  obtain rfl:i = 4 :=by omega
  repeat ((first|refine qav hC (qbz) ?_|refine qaq hS (by kernel_rfl) ?_);conv => whnf)
  refine .inl ?_
  conv => whnf
  repeat ((first|refine qa2 (nthP n1) ?_|refine qa2 (qch (L :=q0 :: l1) (a :=1) (e :=9) (inf :=t9) (by kernel_rfl) (by kernel_rfl) (by kernel_rfl) rfl (Nat.succ_pos _)) ?_|refine qa5 ir1 ?_|refine qa4 ir1 ?_|refine pkT ir1 ?_|refine qax ir1 ?_|refine qav hC (s1) ?_|refine qav hC (m1) ?_|refine qaq hS (by kernel_rfl) ?_);conv => whnf)
  refine qcp hE hS (A :=Nat × AV × List AObj) [] (fun x hx => nomatch hx) [0,2,5,7] (fun (i,v,_) => [(6,v),(12,nv (i + 2))]) (fun _ => []) (fun a => a.2.2) (fun (i,v,ux) => i ≤ T.length ∧ grX T i v ux) (fun (i,_,_) => T.length - i) (0,.nils,[]) (kle rfl) trivial rfl (by repeat' (first|exact trivial|exact Nat.zero_le _|exact qfp _ _ (by decide)|exact qc4 (qa3 _) (by decide)|exact kle rfl|exact bdq|exact mxI rfl|exact mxS rfl|apply And.intro)) zhr ⟨Nat.zero_le _,.inl ⟨rfl,rfl,rfl⟩⟩ ?_
  rintro ⟨i,v,ux⟩ ⟨hi,hv⟩ K hK
  have hi:i ≤ T.length :=hi
  refine Or.elim hv (fun hv => ?_) fun hv => ?_
  ·obtain ⟨rfl,rfl,rfl⟩ :=hv
   obtain rfl:K = 17 :=hK
   conv => whnf
   by_cases hi2:0 < T.length
   ·have ci:decide (Int.ofNat (0 + 2) < IntKind.i64.wrap ((L.length:Int) - 2)) = true :=by rw [w2];exact qbk (show 0 + 2 < n + 2 by omega)
    have ix:inR (Int.ofNat (0 + 2)) L.length = true :=qbf (by omega)
    have gI:nth (stA L) ((0 + 2) * 1) = some (.str (gB L (0 + 2))) :=qb2 (by omega)
    have hi1:IntKind.i64.wrap (Int.ofNat (0 + 2) + 1) = Int.ofNat (0 + 1 + 2) :=by rw [show 0 + 1 + 2 = 0 + 2 + 1 by omega];exact qbr (m :=0 + 2 + 1) (by omega)
    have hr :=hT 0 hi2
    refine Exists.elim hr.ex fun w9 hl1 => Exists.elim hl1 fun l hl2 => ?_
    have pw :=hl2.1
    have pt :=hl2.2
    have hle :=hr.le
    obtain ⟨t,et⟩ : ∃ t,t = gT T 0 :=⟨_,rfl⟩
    rw [← et] at pt hle
    have lL2 :=qbs (w9 :: l)
    refine Or.elim (Classical.em (t = [])) (fun ht0 => ?_) fun ht0 => ?_
    ·have eU:nlV (flN t) = .nils :=by rw [ht0];rfl
     rw [eU] at pt
     have hq:WkV .nils (xqV (gT T 0)) :=by rw [← et,ht0];exact WkV.refl _
     repeat ((first|refine qa2 (nthP gI) ?_|refine qa2 (qch (L :=w9 :: l) (a :=1) (e :=9) (inf :=t9) (by kernel_rfl) (by kernel_rfl) (by kernel_rfl) rfl (Nat.succ_pos _)) ?_|refine qa5 ‹_› ?_|refine qa4 ‹_› ?_|refine pkT ‹_› ?_|refine qax ‹_› ?_|refine qav hC (pw) ?_|refine qav hC (pt) ?_|refine qaq hS (by kernel_rfl) ?_);conv => whnf)
     refine qa6 hE hS ?_
     conv => whnf
     repeat ((first|refine qaq hS (by kernel_rfl) ?_);conv => whnf)
     exact ⟨(1,pxV T 1,[.chain 1 1 45]),[17],⟨hi2,.inr ⟨Nat.zero_lt_one,rfl,rfl⟩⟩,by show T.length - 1 < T.length - 0;omega,zhr⟩
    ·have eU:nlV (flN t) = nl (zl (flN t)) :=if_neg fun z => ht0 (by rw [← qci t,z];rfl)
     rw [eU] at pt
     have lM :=qby (zl (flN t))
     have hM:(zl (flN t)).length = 2 * t.length :=by rw [qcd,qbi]
     have ht1:0 < t.length :=List.length_pos_iff.2 ht0
     have z2 :=qge (M :=flN t) (by rw [qbi,Nat.mul_mod_right])
     have hg :=fun j (hj:j < t.length) => qcq t hj
     have gA:∀ j,j < t.length → nth (ivs (zl (flN t))) (2 * j * 1) = some (nv (gq t j).1) :=fun j hj => (qbq (l :=zl (flN t)) (i :=2 * j) (by omega)).trans (by rw [qcf (flN t) (by rw [qbi];omega),(hg j hj).1])
     have gB2:∀ j,j < t.length → nth (ivs (zl (flN t))) ((2 * j + 1) * 1) = some (nv (gq t j).2) :=fun j hj => (qbq (l :=zl (flN t)) (i :=2 * j + 1) (by omega)).trans (by rw [qcf (flN t) (by rw [qbi];omega),(hg j hj).2])
     have q0:2 * 0 < (zl (flN t)).length :=by omega
     have q1:2 * 0 + 1 < (zl (flN t)).length :=by omega
     have f1:AV.lst [nv (gq t 0).1,nv (gq t 0).2] (0 + 1) (.ch 29) = .lst (flat (zp (t.take 1))) 1 (.ch 29) :=by rw [qbx t ht1];rfl
     have w01:IntKind.i64.wrap (0 + 1) = Int.ofNat (2 * 0 + 1) :=by kernel_rfl
     have iq0:inR (IntKind.i64.wrap (0 + 1)) (zl (flN t)).length = true :=by rw [w01];exact qbf q1
     have gq0:nth (ivs (zl (flN t))) ((IntKind.i64.wrap (0 + 1)).toNat * 1) = some (nv (gq t 0).2) :=by rw [w01];exact gB2 0 ht1
     repeat ((first|refine qa2 (nthP gI) ?_|refine qa2 (qch (L :=w9 :: l) (a :=1) (e :=9) (inf :=t9) (by kernel_rfl) (by kernel_rfl) (by kernel_rfl) rfl (Nat.succ_pos _)) ?_|refine qa5 ‹_› ?_|refine qa4 ‹_› ?_|refine pkT ‹_› ?_|refine qax ‹_› ?_|refine qa9 ‹_› ?_|refine qbc ‹_› ?_|refine pkF ‹_› ?_|refine qar ‹_› ?_|refine qav hC (pw) ?_|refine qav hC (pt) ?_|refine qaq hS (by kernel_rfl) ?_);conv => whnf)
     refine qa6 hE hS ?_
     conv => whnf
     try have z498:=qbk q0
     try have z499:=qbf q0
     repeat ((first|refine qa2 (nthP (gA 0 ht1)) ?_|refine qa2 (nthP gq0) ?_|refine qa5 ‹_› ?_|refine qa4 ‹_› ?_|refine pkT ‹_› ?_|refine qax ‹_› ?_|refine qa9 ‹_› ?_|refine qbc ‹_› ?_|refine pkF ‹_› ?_|refine qar ‹_› ?_|refine qaq hS (by kernel_rfl) ?_);conv => whnf)
     refine qbh hE hS (A :=Nat) [0,2,5,6,7,12,13] (fun j => [(15,.lst (flat (zp (t.take j))) j (.ch 29)),(16,nv (2 * j))]) (fun j => [(29,.chain j 2 74)]) (fun _ => []) (fun j => 1 ≤ j ∧ j ≤ t.length) (fun j => t.length - j) 1 (kle rfl) rfl (zhg 31) ⟨Nat.le_refl _,ht1⟩ ?_
     intro j ⟨hj,hjN⟩ K hK
     obtain rfl:K = 31 :=hK
     conv => whnf
     by_cases hj2:j < t.length
     ·have q0:2 * j < (zl (flN t)).length :=by omega
      have q1:2 * j + 1 < (zl (flN t)).length :=by omega
      have w1:IntKind.i64.wrap (Int.ofNat (2 * j) + 1) = Int.ofNat (2 * j + 1) :=qbr (m :=2 * j + 1) (by omega)
      have w22:IntKind.i64.wrap (Int.ofNat (2 * j) + 2) = Int.ofNat (2 * (j + 1)) :=qbr (m :=2 * (j + 1)) (by omega)
      have x1:decide ((j + (0 + 1)) * 16 ≤ 140737488355328) = true :=decide_eq_true (by omega)
      have x2:decide (j + (0 + 1) ≤ 9223372036854775807) = true :=decide_eq_true (by omega)
      have x4:decide (j = j) = true :=decide_eq_true rfl
      have x5 :=qcb t hjN
      have f2:AV.lst (flat (zp (t.take j)) ++ [nv (gq t j).1,nv (gq t j).2]) (j + (0 + 1)) (.ch 29) = .lst (flat (zp (t.take (j + 1)))) (j + 1) (.ch 29) :=by rw [qbx t hj2,qb6]
      have iq:inR (IntKind.i64.wrap (Int.ofNat (2 * j) + 1)) (zl (flN t)).length = true :=by rw [w1];exact qbf q1
      have gq1:nth (ivs (zl (flN t))) ((IntKind.i64.wrap (Int.ofNat (2 * j) + 1)).toNat * 1) = some (nv (gq t j).2) :=by rw [w1];exact gB2 j hj2
      try have z500:=qbk q0
      try have z501:=qbf q0
      repeat ((first|refine qa2 (nthP (gA j hj2)) ?_|refine qa2 (nthP gq1) ?_|refine qa5 ‹_› ?_|refine qa4 ‹_› ?_|refine pkT ‹_› ?_|refine qax ‹_› ?_|refine qa9 ‹_› ?_|refine qbc ‹_› ?_|refine pkF ‹_› ?_|refine qar ‹_› ?_|refine qaq hS (by kernel_rfl) ?_);conv => whnf)
      exact ⟨j + 1,⟨by omega,hj2⟩,by omega,kle rfl,(zhg 31)⟩
     ·have hjE:j = t.length :=by omega
      refine qar (qb9 (show ¬ 2 * j < (zl (flN t)).length by omega)) ?_
      conv => whnf
      refine .inl ?_
      conv => whnf
      have hq:WkV (.lst (flat (zp (t.take j))) j (.ch 29)) (xqV (gT T 0)) :=by rw [← et,hjE,List.take_length];exact qcs ht0 rfl
      repeat ((first|refine qaq hS (by kernel_rfl) ?_);conv => whnf)
      exact ⟨(1,pxV T 1,[.chain 1 1 45]),[31],⟨hi2,.inr ⟨Nat.zero_lt_one,rfl,rfl⟩⟩,by show T.length - 1 < T.length - 0;omega,zhr⟩
   ·have hiE:T.length = 0 :=by omega
    have ci:decide (Int.ofNat (0 + 2) < IntKind.i64.wrap ((L.length:Int) - 2)) = false :=by rw [w2];exact qb9 (show ¬ 0 + 2 < n + 2 by omega)
    have pT :=qdu (r :=(a,b,c,sV p4 4)) (c :=17) hNI (.inl ⟨rfl,List.eq_nil_of_length_eq_zero hiE⟩) oR sW
    repeat ((first|refine qa5 ‹_› ?_|refine qa4 ‹_› ?_|refine pkT ‹_› ?_|refine qax ‹_› ?_|refine qa9 ‹_› ?_|refine qbc ‹_› ?_|refine pkF ‹_› ?_|refine qar ‹_› ?_|refine qa5 (gff ‹_›) ?_|refine qa4 (gff ‹_›) ?_|refine pkT (gff ‹_›) ?_|refine qax (gff ‹_›) ?_|refine qav hC (pT) ?_|refine qaq hS (by kernel_rfl) ?_);conv => whnf)
    exact ⟨_,rfl,Wk.refl _⟩
  ·obtain ⟨hj9,rfl,rfl⟩ :=hv
   obtain rfl:K = 18 :=hK
   conv => whnf
   by_cases hi2:i < T.length
   ·have ci:decide (Int.ofNat (i + 2) < IntKind.i64.wrap ((L.length:Int) - 2)) = true :=by rw [w2];exact qbk (show i + 2 < n + 2 by omega)
    have ix:inR (Int.ofNat (i + 2)) L.length = true :=qbf (by omega)
    have gI:nth (stA L) ((i + 2) * 1) = some (.str (gB L (i + 2))) :=qb2 (by omega)
    have hi1:IntKind.i64.wrap (Int.ofNat (i + 2) + 1) = Int.ofNat (i + 1 + 2) :=by rw [show i + 1 + 2 = i + 2 + 1 by omega];exact qbr (m :=i + 2 + 1) (by omega)
    have d1:decide ((i + (0 + 1)) * 24 ≤ 140737488355328) = true :=decide_eq_true (by omega)
    have d2:decide (i + (0 + 1) ≤ 9223372036854775807) = true :=decide_eq_true (by omega)
    have d4:decide (i = i) = true :=decide_eq_true rfl
    have d5 :=qcx T hi
    have hr :=hT i hi2
    refine Exists.elim hr.ex fun w9 hl1 => Exists.elim hl1 fun l hl2 => ?_
    have pw :=hl2.1
    have pt :=hl2.2
    have hle :=hr.le
    obtain ⟨t,et⟩ : ∃ t,t = gT T i :=⟨_,rfl⟩
    rw [← et] at pt hle
    have lL2 :=qbs (w9 :: l)
    refine Or.elim (Classical.em (t = [])) (fun ht0 => ?_) fun ht0 => ?_
    ·have eU:nlV (flN t) = .nils :=by rw [ht0];rfl
     rw [eU] at pt
     have hq:WkV .nils (xqV (gT T i)) :=by rw [← et,ht0];exact WkV.refl _
     repeat ((first|refine qa2 (nthP gI) ?_|refine qa2 (qch (L :=w9 :: l) (a :=1) (e :=9) (inf :=t9) (by kernel_rfl) (by kernel_rfl) (by kernel_rfl) rfl (Nat.succ_pos _)) ?_|refine qa5 ‹_› ?_|refine qa4 ‹_› ?_|refine pkT ‹_› ?_|refine qax ‹_› ?_|refine qav hC (pw) ?_|refine qav hC (pt) ?_|refine qaq hS (by kernel_rfl) ?_);conv => whnf)
     refine qa6 hE hS ?_
     conv => whnf
     repeat ((first|refine qa5 ‹_› ?_|refine qa4 ‹_› ?_|refine pkT ‹_› ?_|refine qax ‹_› ?_|refine qa9 ‹_› ?_|refine qbc ‹_› ?_|refine pkF ‹_› ?_|refine qar ‹_› ?_|refine qaq hS (by kernel_rfl) ?_);conv => whnf)
     exact ⟨(i + 1,pxV T (i + 1),[.chain (i + 1) 1 45]),[17],⟨hi2,.inr ⟨Nat.succ_pos _,rfl,rfl⟩⟩,by show T.length - (i + 1) < T.length - i;omega,zhr⟩
    ·have eU:nlV (flN t) = nl (zl (flN t)) :=if_neg fun z => ht0 (by rw [← qci t,z];rfl)
     rw [eU] at pt
     have lM :=qby (zl (flN t))
     have hM:(zl (flN t)).length = 2 * t.length :=by rw [qcd,qbi]
     have ht1:0 < t.length :=List.length_pos_iff.2 ht0
     have z2 :=qge (M :=flN t) (by rw [qbi,Nat.mul_mod_right])
     have hg :=fun j (hj:j < t.length) => qcq t hj
     have gA:∀ j,j < t.length → nth (ivs (zl (flN t))) (2 * j * 1) = some (nv (gq t j).1) :=fun j hj => (qbq (l :=zl (flN t)) (i :=2 * j) (by omega)).trans (by rw [qcf (flN t) (by rw [qbi];omega),(hg j hj).1])
     have gB2:∀ j,j < t.length → nth (ivs (zl (flN t))) ((2 * j + 1) * 1) = some (nv (gq t j).2) :=fun j hj => (qbq (l :=zl (flN t)) (i :=2 * j + 1) (by omega)).trans (by rw [qcf (flN t) (by rw [qbi];omega),(hg j hj).2])
     have q0:2 * 0 < (zl (flN t)).length :=by omega
     have q1:2 * 0 + 1 < (zl (flN t)).length :=by omega
     have f1:AV.lst [nv (gq t 0).1,nv (gq t 0).2] (0 + 1) (.ch 30) = .lst (flat (zp (t.take 1))) 1 (.ch 30) :=by rw [qbx t ht1];rfl
     have w01:IntKind.i64.wrap (0 + 1) = Int.ofNat (2 * 0 + 1) :=by kernel_rfl
     have iq0:inR (IntKind.i64.wrap (0 + 1)) (zl (flN t)).length = true :=by rw [w01];exact qbf q1
     have gq0:nth (ivs (zl (flN t))) ((IntKind.i64.wrap (0 + 1)).toNat * 1) = some (nv (gq t 0).2) :=by rw [w01];exact gB2 0 ht1
     repeat ((first|refine qa2 (nthP gI) ?_|refine qa2 (qch (L :=w9 :: l) (a :=1) (e :=9) (inf :=t9) (by kernel_rfl) (by kernel_rfl) (by kernel_rfl) rfl (Nat.succ_pos _)) ?_|refine qa5 ‹_› ?_|refine qa4 ‹_› ?_|refine pkT ‹_› ?_|refine qax ‹_› ?_|refine qa9 ‹_› ?_|refine qbc ‹_› ?_|refine pkF ‹_› ?_|refine qar ‹_› ?_|refine qav hC (pw) ?_|refine qav hC (pt) ?_|refine qaq hS (by kernel_rfl) ?_);conv => whnf)
     refine qa6 hE hS ?_
     conv => whnf
     try have z502:=qbk q0
     try have z503:=qbf q0
     repeat ((first|refine qa2 (nthP (gA 0 ht1)) ?_|refine qa2 (nthP gq0) ?_|refine qa5 ‹_› ?_|refine qa4 ‹_› ?_|refine pkT ‹_› ?_|refine qax ‹_› ?_|refine qa9 ‹_› ?_|refine qbc ‹_› ?_|refine pkF ‹_› ?_|refine qar ‹_› ?_|refine qaq hS (by kernel_rfl) ?_);conv => whnf)
     refine qbh hE hS (A :=Nat) [0,2,5,6,7,12,13] (fun j => [(15,.lst (flat (zp (t.take j))) j (.ch 30)),(16,nv (2 * j))]) (fun j => [(30,.chain j 2 74)]) (fun _ => []) (fun j => 1 ≤ j ∧ j ≤ t.length) (fun j => t.length - j) 1 (kle rfl) rfl (zhg 32) ⟨Nat.le_refl _,ht1⟩ ?_
     intro j ⟨hj,hjN⟩ K hK
     obtain rfl:K = 32 :=hK
     conv => whnf
     by_cases hj2:j < t.length
     ·have q0:2 * j < (zl (flN t)).length :=by omega
      have q1:2 * j + 1 < (zl (flN t)).length :=by omega
      have w1:IntKind.i64.wrap (Int.ofNat (2 * j) + 1) = Int.ofNat (2 * j + 1) :=qbr (m :=2 * j + 1) (by omega)
      have w22:IntKind.i64.wrap (Int.ofNat (2 * j) + 2) = Int.ofNat (2 * (j + 1)) :=qbr (m :=2 * (j + 1)) (by omega)
      have x1:decide ((j + (0 + 1)) * 16 ≤ 140737488355328) = true :=decide_eq_true (by omega)
      have x2:decide (j + (0 + 1) ≤ 9223372036854775807) = true :=decide_eq_true (by omega)
      have x4:decide (j = j) = true :=decide_eq_true rfl
      have x5 :=qcb t hjN
      have f2:AV.lst (flat (zp (t.take j)) ++ [nv (gq t j).1,nv (gq t j).2]) (j + (0 + 1)) (.ch 30) = .lst (flat (zp (t.take (j + 1)))) (j + 1) (.ch 30) :=by rw [qbx t hj2,qb6]
      have iq:inR (IntKind.i64.wrap (Int.ofNat (2 * j) + 1)) (zl (flN t)).length = true :=by rw [w1];exact qbf q1
      have gq1:nth (ivs (zl (flN t))) ((IntKind.i64.wrap (Int.ofNat (2 * j) + 1)).toNat * 1) = some (nv (gq t j).2) :=by rw [w1];exact gB2 j hj2
      try have z504:=qbk q0
      try have z505:=qbf q0
      repeat ((first|refine qa2 (nthP (gA j hj2)) ?_|refine qa2 (nthP gq1) ?_|refine qa5 ‹_› ?_|refine qa4 ‹_› ?_|refine pkT ‹_› ?_|refine qax ‹_› ?_|refine qa9 ‹_› ?_|refine qbc ‹_› ?_|refine pkF ‹_› ?_|refine qar ‹_› ?_|refine qaq hS (by kernel_rfl) ?_);conv => whnf)
      exact ⟨j + 1,⟨by omega,hj2⟩,by omega,kle rfl,(zhg 32)⟩
     ·have hjE:j = t.length :=by omega
      refine qar (qb9 (show ¬ 2 * j < (zl (flN t)).length by omega)) ?_
      conv => whnf
      refine .inl ?_
      conv => whnf
      have hq:WkV (.lst (flat (zp (t.take j))) j (.ch 30)) (xqV (gT T i)) :=by rw [← et,hjE,List.take_length];exact qcs ht0 rfl
      repeat ((first|refine qa5 ‹_› ?_|refine qa4 ‹_› ?_|refine pkT ‹_› ?_|refine qax ‹_› ?_|refine qa9 ‹_› ?_|refine qbc ‹_› ?_|refine pkF ‹_› ?_|refine qar ‹_› ?_|refine qaq hS (by kernel_rfl) ?_);conv => whnf)
      exact ⟨(i + 1,pxV T (i + 1),[.chain (i + 1) 1 45]),[17],⟨hi2,.inr ⟨Nat.succ_pos _,rfl,rfl⟩⟩,by show T.length - (i + 1) < T.length - i;omega,zhr⟩
   ·have hiE:T.length = i :=by omega
    have ci:decide (Int.ofNat (i + 2) < IntKind.i64.wrap ((L.length:Int) - 2)) = false :=by rw [w2];exact qb9 (show ¬ i + 2 < n + 2 by omega)
    have eT:pxV T i = .lst (xqs T) T.length (.ch 17) :=by unfold pxV;rw [← hiE,List.take_length]
    have pT :=qdu (r :=(a,b,c,sV p4 4)) (c :=17) hNI (.inr eT) oR sW
    repeat ((first|refine qa5 ‹_› ?_|refine qa4 ‹_› ?_|refine pkT ‹_› ?_|refine qax ‹_› ?_|refine qa9 ‹_› ?_|refine qbc ‹_› ?_|refine pkF ‹_› ?_|refine qar ‹_› ?_|refine qa5 (gff ‹_›) ?_|refine qa4 (gff ‹_›) ?_|refine pkT (gff ‹_›) ?_|refine qax (gff ‹_›) ?_|refine qav hC (pT) ?_|refine qaq hS (by kernel_rfl) ?_);conv => whnf)
    exact ⟨_,rfl,Wk.refl _⟩
 ·refine qbg hE rfl (by repeat' first|exact trivial|assumption|exact qa3 _|exact fun _ h => nomatch h|apply And.intro) (by repeat' first|exact trivial|assumption|exact qa3 _|exact fun _ h => nomatch h|apply And.intro) fun S q pc hS hq hC hE => ?_
  conv => whnf
  repeat ((first|refine qa2 (nthP n0) ?_|refine qa5 ‹_› ?_|refine qa4 ‹_› ?_|refine pkT ‹_› ?_|refine qax ‹_› ?_|refine qa9 ‹_› ?_|refine qbc ‹_› ?_|refine pkF ‹_› ?_|refine qar ‹_› ?_|refine qa5 (gff ‹_›) ?_|refine qa4 (gff ‹_›) ?_|refine pkT (gff ‹_›) ?_|refine qax (gff ‹_›) ?_|refine qav hC (pS) ?_|refine qav hC (s0) ?_|refine qaq hS (by kernel_rfl) ?_);conv => whnf)
  refine qa2 (p' :=.chk true (.ret (.lst (stA [p1,p2,p3]) 3 .no))) (by kernel_rfl) ?_
  conv => whnf
  repeat ((first|refine qav hC (m0) ?_|refine qaq hS (by kernel_rfl) ?_);conv => whnf)
  refine qbh hE hS (A :=Nat) [0,2,5,6,7,8] (fun i => [(11,nv i)]) (fun i => [(1,.cells (.node (nv a) (.node (nv b) (.node (nv (sV p4 i)) .nil .nil) .nil) (.node (nv c) (.node (.nils) .nil .nil) .nil)) 5 25)]) (fun _ => []) (fun i => 1 ≤ i ∧ i ≤ 4) (fun i => 4 - i) 1 (kle rfl) rfl (zhg 17) ⟨Nat.le_refl _,by decide⟩ ?_
  intro i ⟨hi,hi4⟩ K hK
  obtain rfl:K = 17 :=hK
  conv => whnf
  by_cases hi2:i < 4
  ·have hi1:IntKind.i64.wrap (Int.ofNat i + 1) = Int.ofNat (i + 1) :=qbr (m :=i + 1) (by omega)
   have gs :=qgt hi2
   by_cases hq:sQ i = p4
   ·have c1:(sQ i == p4) = true :=beq_iff_eq.2 hq
    have eS:AObj.cells (.node (nv a) (.node (nv b) (.node (nv i) .nil .nil) .nil) (.node (nv c) (.node (.nils) .nil .nil) .nil)) 5 25 = .cells (.node (nv a) (.node (nv b) (.node (nv (sV p4 (i + 1))) .nil .nil) .nil) (.node (nv c) (.node (.nils) .nil .nil) .nil)) 5 25 :=by rw [sV,if_pos ⟨hi,hq⟩]
    try have z506:=qbk hi2
    try have z507:=qbf hi2
    repeat ((first|refine qa2 (nthP gs) ?_|refine qa5 ‹_› ?_|refine qa4 ‹_› ?_|refine pkT ‹_› ?_|refine qax ‹_› ?_|refine qa9 ‹_› ?_|refine qbc ‹_› ?_|refine pkF ‹_› ?_|refine qar ‹_› ?_|refine qav hC (qbz) ?_|refine qaq hS (by kernel_rfl) ?_);conv => whnf)
    exact ⟨i + 1,⟨by omega,hi2⟩,by omega,kle rfl,(zhg 17)⟩
   ·have c1:(sQ i == p4) = false :=beq_eq_false_iff_ne.2 hq
    have eS:AObj.cells (.node (nv a) (.node (nv b) (.node (nv (sV p4 i)) .nil .nil) .nil) (.node (nv c) (.node (.nils) .nil .nil) .nil)) 5 25 = .cells (.node (nv a) (.node (nv b) (.node (nv (sV p4 (i + 1))) .nil .nil) .nil) (.node (nv c) (.node (.nils) .nil .nil) .nil)) 5 25 :=by rw [sV,if_neg fun z => hq z.2]
    try have z508:=qbk hi2
    try have z509:=qbf hi2
    repeat ((first|refine qa2 (nthP gs) ?_|refine qa5 ‹_› ?_|refine qa4 ‹_› ?_|refine pkT ‹_› ?_|refine qax ‹_› ?_|refine qa9 ‹_› ?_|refine qbc ‹_› ?_|refine pkF ‹_› ?_|refine qar ‹_› ?_|refine qav hC (qbz) ?_|refine qaq hS (by kernel_rfl) ?_);conv => whnf)
    exact ⟨i + 1,⟨by omega,hi2⟩,by omega,kle rfl,(zhg 17)⟩
  obtain rfl:i = 4 :=by omega
  repeat ((first|refine qav hC (qbz) ?_|refine qaq hS (by kernel_rfl) ?_);conv => whnf)
  refine .inl ?_
  conv => whnf
  repeat ((first|refine qa2 (nthP n1) ?_|refine qa2 (qch (L :=q0 :: l1) (a :=1) (e :=9) (inf :=t9) (by kernel_rfl) (by kernel_rfl) (by kernel_rfl) rfl (Nat.succ_pos _)) ?_|refine qa5 ir1 ?_|refine qa4 ir1 ?_|refine pkT ir1 ?_|refine qax ir1 ?_|refine qav hC (s1) ?_|refine qav hC (m1) ?_|refine qaq hS (by kernel_rfl) ?_);conv => whnf)
  refine qcp hE hS (A :=Nat × AV × List AObj) [] (fun x hx => nomatch hx) [0,2,5,7] (fun (i,v,_) => [(6,v),(12,nv (i + 2))]) (fun _ => []) (fun a => a.2.2) (fun (i,v,ux) => i ≤ T.length ∧ grX T i v ux) (fun (i,_,_) => T.length - i) (0,.nils,[]) (kle rfl) trivial rfl (by repeat' (first|exact trivial|exact Nat.zero_le _|exact qfp _ _ (by decide)|exact qc4 (qa3 _) (by decide)|exact kle rfl|exact bdq|exact mxI rfl|exact mxS rfl|apply And.intro)) zhr ⟨Nat.zero_le _,.inl ⟨rfl,rfl,rfl⟩⟩ ?_
  rintro ⟨i,v,ux⟩ ⟨hi,hv⟩ K hK
  have hi:i ≤ T.length :=hi
  refine Or.elim hv (fun hv => ?_) fun hv => ?_
  ·obtain ⟨rfl,rfl,rfl⟩ :=hv
   obtain rfl:K = 17 :=hK
   conv => whnf
   by_cases hi2:0 < T.length
   ·have ci:decide (Int.ofNat (0 + 2) < IntKind.i64.wrap ((L.length:Int) - 2)) = true :=by rw [w2];exact qbk (show 0 + 2 < n + 2 by omega)
    have ix:inR (Int.ofNat (0 + 2)) L.length = true :=qbf (by omega)
    have gI:nth (stA L) ((0 + 2) * 1) = some (.str (gB L (0 + 2))) :=qb2 (by omega)
    have hi1:IntKind.i64.wrap (Int.ofNat (0 + 2) + 1) = Int.ofNat (0 + 1 + 2) :=by rw [show 0 + 1 + 2 = 0 + 2 + 1 by omega];exact qbr (m :=0 + 2 + 1) (by omega)
    have hr :=hT 0 hi2
    refine Exists.elim hr.ex fun w9 hl1 => Exists.elim hl1 fun l hl2 => ?_
    have pw :=hl2.1
    have pt :=hl2.2
    have hle :=hr.le
    obtain ⟨t,et⟩ : ∃ t,t = gT T 0 :=⟨_,rfl⟩
    rw [← et] at pt hle
    have lL2 :=qbs (w9 :: l)
    refine Or.elim (Classical.em (t = [])) (fun ht0 => ?_) fun ht0 => ?_
    ·have eU:nlV (flN t) = .nils :=by rw [ht0];rfl
     rw [eU] at pt
     have hq:WkV .nils (xqV (gT T 0)) :=by rw [← et,ht0];exact WkV.refl _
     repeat ((first|refine qa2 (nthP gI) ?_|refine qa2 (qch (L :=w9 :: l) (a :=1) (e :=9) (inf :=t9) (by kernel_rfl) (by kernel_rfl) (by kernel_rfl) rfl (Nat.succ_pos _)) ?_|refine qa5 ‹_› ?_|refine qa4 ‹_› ?_|refine pkT ‹_› ?_|refine qax ‹_› ?_|refine qav hC (pw) ?_|refine qav hC (pt) ?_|refine qaq hS (by kernel_rfl) ?_);conv => whnf)
     refine qa6 hE hS ?_
     conv => whnf
     repeat ((first|refine qaq hS (by kernel_rfl) ?_);conv => whnf)
     exact ⟨(1,pxV T 1,[.chain 1 1 45]),[17],⟨hi2,.inr ⟨Nat.zero_lt_one,rfl,rfl⟩⟩,by show T.length - 1 < T.length - 0;omega,zhr⟩
    ·have eU:nlV (flN t) = nl (zl (flN t)) :=if_neg fun z => ht0 (by rw [← qci t,z];rfl)
     rw [eU] at pt
     have lM :=qby (zl (flN t))
     have hM:(zl (flN t)).length = 2 * t.length :=by rw [qcd,qbi]
     have ht1:0 < t.length :=List.length_pos_iff.2 ht0
     have z2 :=qge (M :=flN t) (by rw [qbi,Nat.mul_mod_right])
     have hg :=fun j (hj:j < t.length) => qcq t hj
     have gA:∀ j,j < t.length → nth (ivs (zl (flN t))) (2 * j * 1) = some (nv (gq t j).1) :=fun j hj => (qbq (l :=zl (flN t)) (i :=2 * j) (by omega)).trans (by rw [qcf (flN t) (by rw [qbi];omega),(hg j hj).1])
     have gB2:∀ j,j < t.length → nth (ivs (zl (flN t))) ((2 * j + 1) * 1) = some (nv (gq t j).2) :=fun j hj => (qbq (l :=zl (flN t)) (i :=2 * j + 1) (by omega)).trans (by rw [qcf (flN t) (by rw [qbi];omega),(hg j hj).2])
     have q0:2 * 0 < (zl (flN t)).length :=by omega
     have q1:2 * 0 + 1 < (zl (flN t)).length :=by omega
     have f1:AV.lst [nv (gq t 0).1,nv (gq t 0).2] (0 + 1) (.ch 29) = .lst (flat (zp (t.take 1))) 1 (.ch 29) :=by rw [qbx t ht1];rfl
     have w01:IntKind.i64.wrap (0 + 1) = Int.ofNat (2 * 0 + 1) :=by kernel_rfl
     have iq0:inR (IntKind.i64.wrap (0 + 1)) (zl (flN t)).length = true :=by rw [w01];exact qbf q1
     have gq0:nth (ivs (zl (flN t))) ((IntKind.i64.wrap (0 + 1)).toNat * 1) = some (nv (gq t 0).2) :=by rw [w01];exact gB2 0 ht1
     repeat ((first|refine qa2 (nthP gI) ?_|refine qa2 (qch (L :=w9 :: l) (a :=1) (e :=9) (inf :=t9) (by kernel_rfl) (by kernel_rfl) (by kernel_rfl) rfl (Nat.succ_pos _)) ?_|refine qa5 ‹_› ?_|refine qa4 ‹_› ?_|refine pkT ‹_› ?_|refine qax ‹_› ?_|refine qa9 ‹_› ?_|refine qbc ‹_› ?_|refine pkF ‹_› ?_|refine qar ‹_› ?_|refine qav hC (pw) ?_|refine qav hC (pt) ?_|refine qaq hS (by kernel_rfl) ?_);conv => whnf)
     refine qa6 hE hS ?_
     conv => whnf
     try have z510:=qbk q0
     try have z511:=qbf q0
     repeat ((first|refine qa2 (nthP (gA 0 ht1)) ?_|refine qa2 (nthP gq0) ?_|refine qa5 ‹_› ?_|refine qa4 ‹_› ?_|refine pkT ‹_› ?_|refine qax ‹_› ?_|refine qa9 ‹_› ?_|refine qbc ‹_› ?_|refine pkF ‹_› ?_|refine qar ‹_› ?_|refine qaq hS (by kernel_rfl) ?_);conv => whnf)
     refine qbh hE hS (A :=Nat) [0,2,5,6,7,12,13] (fun j => [(15,.lst (flat (zp (t.take j))) j (.ch 29)),(16,nv (2 * j))]) (fun j => [(29,.chain j 2 74)]) (fun _ => []) (fun j => 1 ≤ j ∧ j ≤ t.length) (fun j => t.length - j) 1 (kle rfl) rfl (zhg 31) ⟨Nat.le_refl _,ht1⟩ ?_
     intro j ⟨hj,hjN⟩ K hK
     obtain rfl:K = 31 :=hK
     conv => whnf
     by_cases hj2:j < t.length
     ·have q0:2 * j < (zl (flN t)).length :=by omega
      have q1:2 * j + 1 < (zl (flN t)).length :=by omega
      have w1:IntKind.i64.wrap (Int.ofNat (2 * j) + 1) = Int.ofNat (2 * j + 1) :=qbr (m :=2 * j + 1) (by omega)
      have w22:IntKind.i64.wrap (Int.ofNat (2 * j) + 2) = Int.ofNat (2 * (j + 1)) :=qbr (m :=2 * (j + 1)) (by omega)
      have x1:decide ((j + (0 + 1)) * 16 ≤ 140737488355328) = true :=decide_eq_true (by omega)
      have x2:decide (j + (0 + 1) ≤ 9223372036854775807) = true :=decide_eq_true (by omega)
      have x4:decide (j = j) = true :=decide_eq_true rfl
      have x5 :=qcb t hjN
      have f2:AV.lst (flat (zp (t.take j)) ++ [nv (gq t j).1,nv (gq t j).2]) (j + (0 + 1)) (.ch 29) = .lst (flat (zp (t.take (j + 1)))) (j + 1) (.ch 29) :=by rw [qbx t hj2,qb6]
      have iq:inR (IntKind.i64.wrap (Int.ofNat (2 * j) + 1)) (zl (flN t)).length = true :=by rw [w1];exact qbf q1
      have gq1:nth (ivs (zl (flN t))) ((IntKind.i64.wrap (Int.ofNat (2 * j) + 1)).toNat * 1) = some (nv (gq t j).2) :=by rw [w1];exact gB2 j hj2
      try have z512:=qbk q0
      try have z513:=qbf q0
      repeat ((first|refine qa2 (nthP (gA j hj2)) ?_|refine qa2 (nthP gq1) ?_|refine qa5 ‹_› ?_|refine qa4 ‹_› ?_|refine pkT ‹_› ?_|refine qax ‹_› ?_|refine qa9 ‹_› ?_|refine qbc ‹_› ?_|refine pkF ‹_› ?_|refine qar ‹_› ?_|refine qaq hS (by kernel_rfl) ?_);conv => whnf)
      exact ⟨j + 1,⟨by omega,hj2⟩,by omega,kle rfl,(zhg 31)⟩
     ·have hjE:j = t.length :=by omega
      refine qar (qb9 (show ¬ 2 * j < (zl (flN t)).length by omega)) ?_
      conv => whnf
      refine .inl ?_
      conv => whnf
      have hq:WkV (.lst (flat (zp (t.take j))) j (.ch 29)) (xqV (gT T 0)) :=by rw [← et,hjE,List.take_length];exact qcs ht0 rfl
      repeat ((first|refine qaq hS (by kernel_rfl) ?_);conv => whnf)
      exact ⟨(1,pxV T 1,[.chain 1 1 45]),[31],⟨hi2,.inr ⟨Nat.zero_lt_one,rfl,rfl⟩⟩,by show T.length - 1 < T.length - 0;omega,zhr⟩
   ·have hiE:T.length = 0 :=by omega
    have ci:decide (Int.ofNat (0 + 2) < IntKind.i64.wrap ((L.length:Int) - 2)) = false :=by rw [w2];exact qb9 (show ¬ 0 + 2 < n + 2 by omega)
    have pT :=qdu (r :=(a,b,c,sV p4 4)) (c :=17) hNI (.inl ⟨rfl,List.eq_nil_of_length_eq_zero hiE⟩) oR sW
    repeat ((first|refine qa5 ‹_› ?_|refine qa4 ‹_› ?_|refine pkT ‹_› ?_|refine qax ‹_› ?_|refine qa9 ‹_› ?_|refine qbc ‹_› ?_|refine pkF ‹_› ?_|refine qar ‹_› ?_|refine qa5 (gff ‹_›) ?_|refine qa4 (gff ‹_›) ?_|refine pkT (gff ‹_›) ?_|refine qax (gff ‹_›) ?_|refine qav hC (pT) ?_|refine qaq hS (by kernel_rfl) ?_);conv => whnf)
    exact ⟨_,rfl,Wk.refl _⟩
  ·obtain ⟨hj9,rfl,rfl⟩ :=hv
   obtain rfl:K = 18 :=hK
   conv => whnf
   by_cases hi2:i < T.length
   ·have ci:decide (Int.ofNat (i + 2) < IntKind.i64.wrap ((L.length:Int) - 2)) = true :=by rw [w2];exact qbk (show i + 2 < n + 2 by omega)
    have ix:inR (Int.ofNat (i + 2)) L.length = true :=qbf (by omega)
    have gI:nth (stA L) ((i + 2) * 1) = some (.str (gB L (i + 2))) :=qb2 (by omega)
    have hi1:IntKind.i64.wrap (Int.ofNat (i + 2) + 1) = Int.ofNat (i + 1 + 2) :=by rw [show i + 1 + 2 = i + 2 + 1 by omega];exact qbr (m :=i + 2 + 1) (by omega)
    have d1:decide ((i + (0 + 1)) * 24 ≤ 140737488355328) = true :=decide_eq_true (by omega)
    have d2:decide (i + (0 + 1) ≤ 9223372036854775807) = true :=decide_eq_true (by omega)
    have d4:decide (i = i) = true :=decide_eq_true rfl
    have d5 :=qcx T hi
    have hr :=hT i hi2
    refine Exists.elim hr.ex fun w9 hl1 => Exists.elim hl1 fun l hl2 => ?_
    have pw :=hl2.1
    have pt :=hl2.2
    have hle :=hr.le
    obtain ⟨t,et⟩ : ∃ t,t = gT T i :=⟨_,rfl⟩
    rw [← et] at pt hle
    have lL2 :=qbs (w9 :: l)
    refine Or.elim (Classical.em (t = [])) (fun ht0 => ?_) fun ht0 => ?_
    ·have eU:nlV (flN t) = .nils :=by rw [ht0];rfl
     rw [eU] at pt
     have hq:WkV .nils (xqV (gT T i)) :=by rw [← et,ht0];exact WkV.refl _
     repeat ((first|refine qa2 (nthP gI) ?_|refine qa2 (qch (L :=w9 :: l) (a :=1) (e :=9) (inf :=t9) (by kernel_rfl) (by kernel_rfl) (by kernel_rfl) rfl (Nat.succ_pos _)) ?_|refine qa5 ‹_› ?_|refine qa4 ‹_› ?_|refine pkT ‹_› ?_|refine qax ‹_› ?_|refine qav hC (pw) ?_|refine qav hC (pt) ?_|refine qaq hS (by kernel_rfl) ?_);conv => whnf)
     refine qa6 hE hS ?_
     conv => whnf
     repeat ((first|refine qa5 ‹_› ?_|refine qa4 ‹_› ?_|refine pkT ‹_› ?_|refine qax ‹_› ?_|refine qa9 ‹_› ?_|refine qbc ‹_› ?_|refine pkF ‹_› ?_|refine qar ‹_› ?_|refine qaq hS (by kernel_rfl) ?_);conv => whnf)
     exact ⟨(i + 1,pxV T (i + 1),[.chain (i + 1) 1 45]),[17],⟨hi2,.inr ⟨Nat.succ_pos _,rfl,rfl⟩⟩,by show T.length - (i + 1) < T.length - i;omega,zhr⟩
    ·have eU:nlV (flN t) = nl (zl (flN t)) :=if_neg fun z => ht0 (by rw [← qci t,z];rfl)
     rw [eU] at pt
     have lM :=qby (zl (flN t))
     have hM:(zl (flN t)).length = 2 * t.length :=by rw [qcd,qbi]
     have ht1:0 < t.length :=List.length_pos_iff.2 ht0
     have z2 :=qge (M :=flN t) (by rw [qbi,Nat.mul_mod_right])
     have hg :=fun j (hj:j < t.length) => qcq t hj
     have gA:∀ j,j < t.length → nth (ivs (zl (flN t))) (2 * j * 1) = some (nv (gq t j).1) :=fun j hj => (qbq (l :=zl (flN t)) (i :=2 * j) (by omega)).trans (by rw [qcf (flN t) (by rw [qbi];omega),(hg j hj).1])
     have gB2:∀ j,j < t.length → nth (ivs (zl (flN t))) ((2 * j + 1) * 1) = some (nv (gq t j).2) :=fun j hj => (qbq (l :=zl (flN t)) (i :=2 * j + 1) (by omega)).trans (by rw [qcf (flN t) (by rw [qbi];omega),(hg j hj).2])
     have q0:2 * 0 < (zl (flN t)).length :=by omega
     have q1:2 * 0 + 1 < (zl (flN t)).length :=by omega
     have f1:AV.lst [nv (gq t 0).1,nv (gq t 0).2] (0 + 1) (.ch 30) = .lst (flat (zp (t.take 1))) 1 (.ch 30) :=by rw [qbx t ht1];rfl
     have w01:IntKind.i64.wrap (0 + 1) = Int.ofNat (2 * 0 + 1) :=by kernel_rfl
     have iq0:inR (IntKind.i64.wrap (0 + 1)) (zl (flN t)).length = true :=by rw [w01];exact qbf q1
     have gq0:nth (ivs (zl (flN t))) ((IntKind.i64.wrap (0 + 1)).toNat * 1) = some (nv (gq t 0).2) :=by rw [w01];exact gB2 0 ht1
     repeat ((first|refine qa2 (nthP gI) ?_|refine qa2 (qch (L :=w9 :: l) (a :=1) (e :=9) (inf :=t9) (by kernel_rfl) (by kernel_rfl) (by kernel_rfl) rfl (Nat.succ_pos _)) ?_|refine qa5 ‹_› ?_|refine qa4 ‹_› ?_|refine pkT ‹_› ?_|refine qax ‹_› ?_|refine qa9 ‹_› ?_|refine qbc ‹_› ?_|refine pkF ‹_› ?_|refine qar ‹_› ?_|refine qav hC (pw) ?_|refine qav hC (pt) ?_|refine qaq hS (by kernel_rfl) ?_);conv => whnf)
     refine qa6 hE hS ?_
     conv => whnf
     try have z514:=qbk q0
     try have z515:=qbf q0
     repeat ((first|refine qa2 (nthP (gA 0 ht1)) ?_|refine qa2 (nthP gq0) ?_|refine qa5 ‹_› ?_|refine qa4 ‹_› ?_|refine pkT ‹_› ?_|refine qax ‹_› ?_|refine qa9 ‹_› ?_|refine qbc ‹_› ?_|refine pkF ‹_› ?_|refine qar ‹_› ?_|refine qaq hS (by kernel_rfl) ?_);conv => whnf)
     refine qbh hE hS (A :=Nat) [0,2,5,6,7,12,13] (fun j => [(15,.lst (flat (zp (t.take j))) j (.ch 30)),(16,nv (2 * j))]) (fun j => [(30,.chain j 2 74)]) (fun _ => []) (fun j => 1 ≤ j ∧ j ≤ t.length) (fun j => t.length - j) 1 (kle rfl) rfl (zhg 32) ⟨Nat.le_refl _,ht1⟩ ?_
     intro j ⟨hj,hjN⟩ K hK
     obtain rfl:K = 32 :=hK
     conv => whnf
     by_cases hj2:j < t.length
     ·have q0:2 * j < (zl (flN t)).length :=by omega
      have q1:2 * j + 1 < (zl (flN t)).length :=by omega
      have w1:IntKind.i64.wrap (Int.ofNat (2 * j) + 1) = Int.ofNat (2 * j + 1) :=qbr (m :=2 * j + 1) (by omega)
      have w22:IntKind.i64.wrap (Int.ofNat (2 * j) + 2) = Int.ofNat (2 * (j + 1)) :=qbr (m :=2 * (j + 1)) (by omega)
      have x1:decide ((j + (0 + 1)) * 16 ≤ 140737488355328) = true :=decide_eq_true (by omega)
      have x2:decide (j + (0 + 1) ≤ 9223372036854775807) = true :=decide_eq_true (by omega)
      have x4:decide (j = j) = true :=decide_eq_true rfl
      have x5 :=qcb t hjN
      have f2:AV.lst (flat (zp (t.take j)) ++ [nv (gq t j).1,nv (gq t j).2]) (j + (0 + 1)) (.ch 30) = .lst (flat (zp (t.take (j + 1)))) (j + 1) (.ch 30) :=by rw [qbx t hj2,qb6]
      have iq:inR (IntKind.i64.wrap (Int.ofNat (2 * j) + 1)) (zl (flN t)).length = true :=by rw [w1];exact qbf q1
      have gq1:nth (ivs (zl (flN t))) ((IntKind.i64.wrap (Int.ofNat (2 * j) + 1)).toNat * 1) = some (nv (gq t j).2) :=by rw [w1];exact gB2 j hj2
      try have z516:=qbk q0
      try have z517:=qbf q0
      repeat ((first|refine qa2 (nthP (gA j hj2)) ?_|refine qa2 (nthP gq1) ?_|refine qa5 ‹_› ?_|refine qa4 ‹_› ?_|refine pkT ‹_› ?_|refine qax ‹_› ?_|refine qa9 ‹_› ?_|refine qbc ‹_› ?_|refine pkF ‹_› ?_|refine qar ‹_› ?_|refine qaq hS (by kernel_rfl) ?_);conv => whnf)
      exact ⟨j + 1,⟨by omega,hj2⟩,by omega,kle rfl,(zhg 32)⟩
     ·have hjE:j = t.length :=by omega
      refine qar (qb9 (show ¬ 2 * j < (zl (flN t)).length by omega)) ?_
      conv => whnf
      refine .inl ?_
      conv => whnf
      have hq:WkV (.lst (flat (zp (t.take j))) j (.ch 30)) (xqV (gT T i)) :=by rw [← et,hjE,List.take_length];exact qcs ht0 rfl
      repeat ((first|refine qa5 ‹_› ?_|refine qa4 ‹_› ?_|refine pkT ‹_› ?_|refine qax ‹_› ?_|refine qa9 ‹_› ?_|refine qbc ‹_› ?_|refine pkF ‹_› ?_|refine qar ‹_› ?_|refine qaq hS (by kernel_rfl) ?_);conv => whnf)
      exact ⟨(i + 1,pxV T (i + 1),[.chain (i + 1) 1 45]),[17],⟨hi2,.inr ⟨Nat.succ_pos _,rfl,rfl⟩⟩,by show T.length - (i + 1) < T.length - i;omega,zhr⟩
   ·have hiE:T.length = i :=by omega
    have ci:decide (Int.ofNat (i + 2) < IntKind.i64.wrap ((L.length:Int) - 2)) = false :=by rw [w2];exact qb9 (show ¬ i + 2 < n + 2 by omega)
    have eT:pxV T i = .lst (xqs T) T.length (.ch 17) :=by unfold pxV;rw [← hiE,List.take_length]
    have pT :=qdu (r :=(a,b,c,sV p4 4)) (c :=17) hNI (.inr eT) oR sW
    repeat ((first|refine qa5 ‹_› ?_|refine qa4 ‹_› ?_|refine pkT ‹_› ?_|refine qax ‹_› ?_|refine qa9 ‹_› ?_|refine qbc ‹_› ?_|refine pkF ‹_› ?_|refine qar ‹_› ?_|refine qa5 (gff ‹_›) ?_|refine qa4 (gff ‹_›) ?_|refine pkT (gff ‹_›) ?_|refine qax (gff ‹_›) ?_|refine qav hC (pT) ?_|refine qaq hS (by kernel_rfl) ?_);conv => whnf)
    exact ⟨_,rfl,Wk.refl _⟩
end
end Go.Abs.Seat
