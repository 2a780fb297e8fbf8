/-
  A text, as the program reads it: it is written otherwise.
-/
import Derived.Test.YtnimgfkggbnjoaaGreatDoorVB135
namespace Go.Abs.Seat
noncomputable section
open Go Go.Abs Go.Proofs.Tryz
set_option maxRecDepth 100000
set_option maxHeartbeats 40000000
attribute [local irreducible] pEq qbt IntKind.wrap
theorem qo2 {s:List UInt8} {p1 p2 p3 p4:List UInt8} {l1:List (List UInt8)} {a b c d n:Nat} {N:AV} {V:List Nat} {T:List (List (Nat × Nat))} (hs:s.length ≤ 400) (h4:n + 4 = (spl 10 s).length) (h:PxH (spl 10 s) p1 p2 p3 p4 l1 a b c d N) (hN:IL N (zl V)) (h3:a < 1000 ∧ b < 1000 ∧ c < 1000) (hV:∀ n,n ∈ V → n < 1000) (hVl:V.length ≤ 900) (hTn:T.length = n) (hT:∀ i,i < T.length → RwH (spl 10 s) i (gT T i)) (he:prtT (a,b,c,d + 1) V T ≠ s):qc4 prog 39 [.str s] (noP s) :=by
 have pS :=qbw s 10 (by omega)
 have lS :=qax (spl 10 s)
 have hl :=qb7 10 s
 obtain ⟨L,hL⟩ : ∃ L,L = spl 10 s :=⟨_,rfl⟩
 rw [← hL] at h h4 hT pS lS hl
 have ir0:inR 0 L.length = true :=qai (i :=0) (by omega)
 have ir1:inR 1 L.length = true :=qai (i :=1) (by omega)
 have n0:nth (stA L) (0:Int).toNat = some (.str (gB L 0)) :=qa4 (l :=L) (i :=0) (by omega)
 have n1:nth (stA L) (1:Int).toNat = some (.str (gB L 1)) :=qa4 (l :=L) (i :=1) (by omega)
 have g4:decide ((L.length:Int) ≥ 4) = true :=decide_eq_true (by omega)
 have h44:(((4:Nat):Int) == 4) = true :=rfl
 have pX :=qfy (W0 :=.cells (.node (iv 0) (.node (iv 0) (.node (iv 0) .nil .nil) .nil) (.node (iv 0) (.node .nils .nil .nil) .nil)) 5 25) (by repeat' (first|exact trivial|exact Nat.zero_le _|apply And.intro)) p4
 rw [h.s0] at pX
 have gS:decide (Int.ofNat d ≥ 0) = true :=decide_eq_true (Int.natCast_nonneg _)
 have w0 :=h.w0
 have t0 :=h.t0
 have w1 :=h.w1
 have t1 :=h.t1
 have w5:IntKind.i64.wrap (1 + Int.ofNat d) = Int.ofNat (d + 1) :=by rw [Int.add_comm];exact qav (m :=d + 1) (by have :=h.d3;omega)
 have w2:IntKind.i64.wrap ((L.length:Int) - 2) = Int.ofNat (2 + n) :=by rw [← h4];exact (qet (by omega) (by omega)).trans (by simp only [Int.ofNat_eq_natCast];omega)
 have lX :=qax [p1,p2,p3,p4]
 have lL1 :=qax l1
 have lN :=hN.no
 have hNI :=hN
 have lN2 :=qa5 (zl V)
 have oR :=qrh h3 h.d3 hV hT
 have sW :=qvk (r :=(a,b,c,d + 1)) hVl (show T.length ≤ 900 by omega) hT
 have te:(prtT (a,b,c,d + 1) V T == s) = false :=beq_eq_false_iff_ne.2 he
 rcases hN with ⟨rfl,_⟩ | rfl
 ·refine qbs hE rfl (by repeat' first|exact trivial|assumption|exact qal _|exact fun _ h => nomatch h|apply And.intro) (by simp [noP,Live,Lives]) fun S q pc hS hq hC hE => ?_
  conv => whnf
  repeat ((first|refine qaf (nthP n0) ?_|refine qah ir0 ?_|refine qag ir0 ?_|refine pkT ir0 ?_|refine qaa ir0 ?_|refine qad hC (pS) ?_|refine qad hC (qat g4 s) ?_|refine qad hC (w0) ?_|refine qad hC (qat h44 s) ?_|refine qad hC (qbu) ?_|refine qac hS (by kernel_rfl) ?_);conv => whnf)
  refine qaf (p' :=.ret (.slc 1 0 3 3)) (by kernel_rfl) ?_
  conv => whnf
  repeat ((first|refine qac hS (by kernel_rfl) ?_);conv => whnf)
  refine qb2 hC (HFun.pureR pX (ob2S ⟨rfl,rfl,trivial⟩)) ?_
  conv => whnf
  repeat ((first|refine qad hC (qat gS s) ?_|refine qac hS (by kernel_rfl) ?_);conv => whnf)
  refine qaf (p' :=.chk true (.ret (.lst (stA [p1,p2,p3]) 3 .no))) (by kernel_rfl) ?_
  conv => whnf
  repeat ((first|refine qaf (nthP n1) ?_|refine qaf (qh5 (e :=9) (inf :=t9) (L :=L) (a :=2) (n :=n) (by kernel_rfl) (by kernel_rfl) (by kernel_rfl) rfl w2 (by omega)) ?_|refine qah ir1 ?_|refine qag ir1 ?_|refine pkT ir1 ?_|refine qaa ir1 ?_|refine qad hC (t0) ?_|refine qad hC (w1) ?_|refine qad hC (t1) ?_|refine qac hS (by kernel_rfl) ?_);conv => whnf)
  have lU :=qax ((L.drop 2).take n)
  have eO:AObj.cells (.node (nv a) (.node (nv b) (.node (iv (IntKind.i64.wrap (1 + Int.ofNat d))) .nil .nil) .nil) (.node (nv c) (.node (.nils) .nil .nil) .nil)) 5 25 = .cells (.node (nv a) (.node (nv b) (.node (nv (d + 1)) .nil .nil) .nil) (.node (nv c) (.node (.nils) .nil .nil) .nil)) 5 25 :=by rw [w5]
  have oO:OWk (.cells (.node (nv a) (.node (nv b) (.node (iv (IntKind.i64.wrap (1 + Int.ofNat d))) .nil .nil) .nil) (.node (nv c) (.node (.nils) .nil .nil) .nil)) 5 25) (.cells (.node (nv a) (.node (nv b) (.node (nv (d + 1)) .nil .nil) .nil) (.node (nv c) (.node (.nils) .nil .nil) .nil)) 5 25) :=eO ▸ OWk.same _
  refine qbn hE hS (A :=Nat × AV × List AObj) [] (fun x hx => nomatch hx) [0,2,9,67,68] (fun (i,v,_) => [(10,v),(69,nv i)]) (fun _ => [(20,.cells (.node (nv a) (.node (nv b) (.node (nv (d + 1)) .nil .nil) .nil) (.node (nv c) (.node (.nils) .nil .nil) .nil)) 5 25)]) (fun a => a.2.2) (fun (i,v,ux) => i ≤ T.length ∧ grT T i v ux) (fun (i,_,_) => T.length - i) (0,.nils,[]) (kle rfl) trivial rfl (by repeat' (first|exact trivial|exact Nat.zero_le _|exact qa3 _ _ (by decide)|exact qak lU|exact qak lN2|exact qak lM|exact qas (qal _) (by decide)|exact kle rfl|exact bdq|exact mxI rfl|exact mxS rfl|apply And.intro)) (by refine ⟨rfl,rfl,rfl,rfl,rfl,rfl,by decide,?_,?_,?_,by kernel_rfl,?_,?_⟩ <;> repeat' (first|exact trivial|exact rfl|exact ⟨_,rfl,RnV.wk (WkV.refl _) (Nat.zero_le _)⟩|exact ⟨_,rfl,RnV.wk (WkV.refl _) (kle rfl)⟩|exact TrIw.refl _ _ _ _ _|exact OWk.same _|exact OWk.loop _ _ _ _ _ _ _ (by repeat' (first|exact trivial|exact WkV.refl _|exact WkV.unk _|apply And.intro))|exact Nat.zero_le _|exact oO|exact qa3 _ _ (by decide)|exact qak lU|exact qak lN2|exact qak lM|exact qas (qal _) (by decide)|exact ⟨_,rfl,RnV.wk (WkV.refl _) (qak lU)⟩|exact ⟨_,rfl,RnV.wk (WkV.refl _) (qak lN2)⟩|exact kle rfl|exact bdq|exact mxI rfl|exact mxS rfl|apply And.intro)) ⟨Nat.zero_le _,.inl ⟨rfl,rfl,rfl⟩⟩ ?_
  rintro ⟨i,v,ux⟩ ⟨hi,hv⟩ K hK
  have hi:i ≤ T.length :=hi
  refine Or.elim hv (fun hv => ?_) fun hv => ?_
  ·obtain ⟨rfl,rfl,rfl⟩ :=hv
   obtain rfl:K = 22 :=hK
   conv => whnf
   by_cases hi2:0 < T.length
   ·have hir:0 < n :=by omega
    have hi1:IntKind.i64.wrap (Int.ofNat 0 + 1) = Int.ofNat (0 + 1) :=qav (m :=0 + 1) (by omega)
    have gI :=qbm L (a :=2) (n :=n) (i :=0) (by omega) hir
    have hr :=hT 0 hi2
    refine Exists.elim hr.ex fun l hl2 => ?_
    have pw :=hl2.1
    have pt :=hl2.2
    have hle :=hr.le
    obtain ⟨t,et⟩ : ∃ t,t = gT T 0 :=⟨_,rfl⟩
    rw [← et] at pt hle
    have lL2 :=qax l
    refine Or.elim (Classical.em (t = [])) (fun ht0 => ?_) fun ht0 => ?_
    ·have eU:nlV (flN t) = .nils :=by rw [ht0];rfl
     rw [eU] at pt
     have hq:WkV .nils (xqV (gT T 0)) :=by rw [← et,ht0];exact WkV.refl _
     have z2:((Int.tmod 0 2) == 0) = true :=rfl
     repeat ((first|refine qaf (nthP gI) ?_|refine qah (qae hir) ?_|refine qag (qae hir) ?_|refine pkT (qae hir) ?_|refine qaa (qae hir) ?_|refine qam (qae hir) ?_|refine qan (qae hir) ?_|refine pkF (qae hir) ?_|refine qab (qae hir) ?_|refine qah (qai hir) ?_|refine qag (qai hir) ?_|refine pkT (qai hir) ?_|refine qaa (qai hir) ?_|refine qad hC (pw) ?_|refine qad hC (pt) ?_|refine qad hC (qat z2 (gB L (0 + 2))) ?_|refine qac hS (by kernel_rfl) ?_);conv => whnf)
     refine qao hE hS ?_
     conv => whnf
     repeat ((first|refine qac hS (by kernel_rfl) ?_);conv => whnf)
     exact ⟨(1,ptV T 1,[.chain 1 1 45]),[22],⟨hi2,.inr ⟨Nat.zero_lt_one,rfl,rfl⟩⟩,by show T.length - 1 < T.length - 0;omega,(by refine ⟨rfl,rfl,rfl,rfl,rfl,rfl,by decide,?_,?_,?_,by kernel_rfl,?_,?_⟩ <;> repeat' (first|exact trivial|exact rfl|exact ⟨_,rfl,RnV.wk (WkV.refl _) (Nat.zero_le _)⟩|exact ⟨_,rfl,RnV.wk (WkV.refl _) (kle rfl)⟩|exact TrIw.refl _ _ _ _ _|exact OWk.same _|exact OWk.loop _ _ _ _ _ _ _ (by repeat' (first|exact trivial|exact WkV.refl _|exact WkV.unk _|apply And.intro))|exact Nat.zero_le _|exact ⟨_,rfl,RnV.wk (WkV.int hi1) (Nat.zero_le _)⟩|exact ⟨_,rfl,qcz hi2 hq⟩|exact qa3 _ _ (by decide)|exact qak lU|exact qak lN2|exact qak lM|exact qas (qal _) (by decide)|exact ⟨_,rfl,RnV.wk (WkV.refl _) (qak lU)⟩|exact ⟨_,rfl,RnV.wk (WkV.refl _) (qak lN2)⟩|exact kle rfl|exact bdq|exact mxI rfl|exact mxS rfl|apply And.intro))⟩
    ·have eU:nlV (flN t) = nl (zl (flN t)) :=if_neg fun z => ht0 (by rw [← qbi t,z];rfl)
     rw [eU] at pt
     have lM :=qa5 (zl (flN t))
     have hM:(zl (flN t)).length = 2 * t.length :=by rw [qbe,qaq]
     have ht1:0 < t.length :=List.length_pos_iff.2 ht0
     have z2:(Int.tmod ((zl (flN t)).length:Int) 2 == 0) = true :=by rw [hM];exact beq_iff_eq.2 (by rw [show ((2 * t.length:Nat):Int) = Int.ofNat (2 * t.length) from rfl,show (2:Int) = Int.ofNat 2 from rfl,qdn,Nat.mul_mod_right];rfl)
     have hg :=fun j (hj:j < t.length) => qbp t hj
     have gA:∀ j,j < t.length → nth (ivs (zl (flN t))) (2 * j * 1) = some (nv (gq t j).1) :=fun j hj => (qaw (l :=zl (flN t)) (i :=2 * j) (by omega)).trans (by rw [qbg (flN t) (by rw [qaq];omega),(hg j hj).1])
     have gB2:∀ j,j < t.length → nth (ivs (zl (flN t))) ((2 * j + 1) * 1) = some (nv (gq t j).2) :=fun j hj => (qaw (l :=zl (flN t)) (i :=2 * j + 1) (by omega)).trans (by rw [qbg (flN t) (by rw [qaq];omega),(hg j hj).2])
     have q0:2 * 0 < (zl (flN t)).length :=by omega
     have q1:2 * 0 + 1 < (zl (flN t)).length :=by omega
     have f1:AV.lst [nv (gq t 0).1,nv (gq t 0).2] (0 + 1) (.ch 34) = .lst (flat (zp (t.take 1))) 1 (.ch 34) :=by rw [qaz t ht1];rfl
     repeat ((first|refine qaf (nthP gI) ?_|refine qah (qae hir) ?_|refine qag (qae hir) ?_|refine pkT (qae hir) ?_|refine qaa (qae hir) ?_|refine qam (qae hir) ?_|refine qan (qae hir) ?_|refine pkF (qae hir) ?_|refine qab (qae hir) ?_|refine qah (qai hir) ?_|refine qag (qai hir) ?_|refine pkT (qai hir) ?_|refine qaa (qai hir) ?_|refine qad hC (pw) ?_|refine qad hC (pt) ?_|refine qad hC (qat z2 (gB L (0 + 2))) ?_|refine qac hS (by kernel_rfl) ?_);conv => whnf)
     have w01:IntKind.i64.wrap (0 + 1) = Int.ofNat (2 * 0 + 1) :=by kernel_rfl
     have iq0:inR (IntKind.i64.wrap (0 + 1)) (zl (flN t)).length = true :=by rw [w01];exact qai q1
     have gq0:nth (ivs (zl (flN t))) ((IntKind.i64.wrap (0 + 1)).toNat * 1) = some (nv (gq t 0).2) :=by rw [w01];exact gB2 0 ht1
     refine qao hE hS ?_
     conv => whnf
     repeat ((first|refine qaf (nthP (gA 0 ht1)) ?_|refine qaf (nthP gq0) ?_|refine qah (qae q0) ?_|refine qag (qae q0) ?_|refine pkT (qae q0) ?_|refine qaa (qae q0) ?_|refine qam (qae q0) ?_|refine qan (qae q0) ?_|refine pkF (qae q0) ?_|refine qab (qae q0) ?_|refine qah (qai q0) ?_|refine qag (qai q0) ?_|refine pkT (qai q0) ?_|refine qaa (qai q0) ?_|refine qah iq0 ?_|refine qag iq0 ?_|refine pkT iq0 ?_|refine qaa iq0 ?_|refine qac hS (by kernel_rfl) ?_);conv => whnf)
     refine qar hE hS (A :=Nat) [0,2,9,10,13,67,68,69] (fun j => [(14,.lst (flat (zp (t.take j))) j (.ch 34)),(15,nv (2 * j))]) (fun j => [(34,.chain j 2 74)]) (fun _ => []) (fun j => 1 ≤ j ∧ j ≤ t.length) (fun j => t.length - j) 1 (kle rfl) rfl (by refine ⟨rfl,rfl,rfl,rfl,rfl,rfl,36,rfl,?_,?_⟩ <;> repeat' (first|exact trivial|exact rfl|exact wkr rfl|exact wko rfl|exact Nat.zero_le _|exact ⟨_,rfl,WkV.int (qav (m :=2) (by decide))⟩|exact ⟨_,rfl,WkV.eq f1⟩|exact qa3 _ _ (by decide)|exact qak lU|exact qak lN2|exact qak lM|exact qas (qal _) (by decide)|exact kle rfl|exact bdq|exact mxI rfl|exact mxS rfl|apply And.intro)) ⟨Nat.le_refl _,ht1⟩ ?_
     intro j ⟨hj,hjN⟩ K hK
     obtain rfl:K = 36 :=hK
     conv => whnf
     by_cases hj2:j < t.length
     ·have q0:2 * j < (zl (flN t)).length :=by omega
      have q1:2 * j + 1 < (zl (flN t)).length :=by omega
      have w1:IntKind.i64.wrap (Int.ofNat (2 * j) + 1) = Int.ofNat (2 * j + 1) :=qav (m :=2 * j + 1) (by omega)
      have w22:IntKind.i64.wrap (Int.ofNat (2 * j) + 2) = Int.ofNat (2 * (j + 1)) :=qav (m :=2 * (j + 1)) (by omega)
      have x1:decide ((j + (0 + 1)) * 16 ≤ 140737488355328) = true :=decide_eq_true (by omega)
      have x2:decide (j + (0 + 1) ≤ 9223372036854775807) = true :=decide_eq_true (by omega)
      have x4:decide (j = j) = true :=decide_eq_true rfl
      have x5 :=qbc t hjN
      have f2:AV.lst (flat (zp (t.take j)) ++ [nv (gq t j).1,nv (gq t j).2]) (j + (0 + 1)) (.ch 34) = .lst (flat (zp (t.take (j + 1)))) (j + 1) (.ch 34) :=by rw [qaz t hj2,qa6]
      have iq:inR (IntKind.i64.wrap (Int.ofNat (2 * j) + 1)) (zl (flN t)).length = true :=by rw [w1];exact qai q1
      have gq1:nth (ivs (zl (flN t))) ((IntKind.i64.wrap (Int.ofNat (2 * j) + 1)).toNat * 1) = some (nv (gq t j).2) :=by rw [w1];exact gB2 j hj2
      repeat ((first|refine qaf (nthP (gA j hj2)) ?_|refine qaf (nthP gq1) ?_|refine qah (qae q0) ?_|refine qag (qae q0) ?_|refine pkT (qae q0) ?_|refine qaa (qae q0) ?_|refine qam (qae q0) ?_|refine qan (qae q0) ?_|refine pkF (qae q0) ?_|refine qab (qae q0) ?_|refine qah (qai q0) ?_|refine qag (qai q0) ?_|refine pkT (qai q0) ?_|refine qaa (qai q0) ?_|refine qah iq ?_|refine qag iq ?_|refine pkT iq ?_|refine qaa iq ?_|refine qah x1 ?_|refine qag x1 ?_|refine pkT x1 ?_|refine qaa x1 ?_|refine qah x2 ?_|refine qag x2 ?_|refine pkT x2 ?_|refine qaa x2 ?_|refine qah x4 ?_|refine qag x4 ?_|refine pkT x4 ?_|refine qaa x4 ?_|refine qah x5 ?_|refine qag x5 ?_|refine pkT x5 ?_|refine qaa x5 ?_|refine qam x5 ?_|refine qan x5 ?_|refine pkF x5 ?_|refine qab x5 ?_|refine qac hS (by kernel_rfl) ?_);conv => whnf)
      exact ⟨j + 1,⟨by omega,hj2⟩,by omega,kle rfl,(by refine ⟨rfl,rfl,rfl,rfl,rfl,rfl,36,rfl,?_,?_⟩ <;> repeat' (first|exact trivial|exact rfl|exact wkr rfl|exact wko rfl|exact Nat.zero_le _|exact ⟨_,rfl,WkV.int w22⟩|exact ⟨_,rfl,WkV.eq f2⟩|exact qa3 _ _ (by decide)|exact qak lU|exact qak lN2|exact qak lM|exact qas (qal _) (by decide)|exact kle rfl|exact bdq|exact mxI rfl|exact mxS rfl|apply And.intro))⟩
     ·have hjE:j = t.length :=by omega
      refine qab (qa9 (show ¬ 2 * j < (zl (flN t)).length by omega)) ?_
      conv => whnf
      refine .inl ?_
      conv => whnf
      have hq:WkV (.lst (flat (zp (t.take j))) j (.ch 34)) (xqV (gT T 0)) :=by rw [← et,hjE,List.take_length];exact qbq ht0 rfl
      repeat ((first|refine qac hS (by kernel_rfl) ?_);conv => whnf)
      exact ⟨(1,ptV T 1,[.chain 1 1 45]),[36],⟨hi2,.inr ⟨Nat.zero_lt_one,rfl,rfl⟩⟩,by show T.length - 1 < T.length - 0;omega,(by refine ⟨rfl,rfl,rfl,rfl,rfl,rfl,by decide,?_,?_,?_,by kernel_rfl,?_,?_⟩ <;> repeat' (first|exact trivial|exact rfl|exact ⟨_,rfl,RnV.wk (WkV.refl _) (Nat.zero_le _)⟩|exact ⟨_,rfl,RnV.wk (WkV.refl _) (kle rfl)⟩|exact TrIw.refl _ _ _ _ _|exact OWk.same _|exact OWk.loop _ _ _ _ _ _ _ (by repeat' (first|exact trivial|exact WkV.refl _|exact WkV.unk _|apply And.intro))|exact Nat.zero_le _|exact ⟨_,rfl,RnV.wk (WkV.int hi1) (Nat.zero_le _)⟩|exact ⟨_,rfl,qcz hi2 hq⟩|exact qa3 _ _ (by decide)|exact qak lU|exact qak lN2|exact qak lM|exact qas (qal _) (by decide)|exact ⟨_,rfl,RnV.wk (WkV.refl _) (qak lU)⟩|exact ⟨_,rfl,RnV.wk (WkV.refl _) (qak lN2)⟩|exact kle rfl|exact bdq|exact mxI rfl|exact mxS rfl|apply And.intro))⟩
   ·have hiE:T.length = 0 :=by omega
    have pT :=qdg (r :=(a,b,c,d + 1)) (c :=22) hNI (.inl ⟨rfl,List.eq_nil_of_length_eq_zero hiE⟩) oR sW
    refine qab (qa9 (show ¬ 0 < n by omega)) ?_
    conv => whnf
    repeat ((first|refine qad hC (pT) ?_|refine qac hS (by kernel_rfl) ?_);conv => whnf)
    refine qa7 hC ?_
    conv => whnf
    refine qba hS (qb8 te s) ?_
    conv => whnf
  ·obtain ⟨hj9,rfl,rfl⟩ :=hv
   obtain rfl:K = 23 :=hK
   conv => whnf
   by_cases hi2:i < T.length
   ·have hir:i < n :=by omega
    have hi1:IntKind.i64.wrap (Int.ofNat i + 1) = Int.ofNat (i + 1) :=qav (m :=i + 1) (by omega)
    have d1:decide ((i + (0 + 1)) * 24 ≤ 140737488355328) = true :=decide_eq_true (by omega)
    have d2:decide (i + (0 + 1) ≤ 9223372036854775807) = true :=decide_eq_true (by omega)
    have d4:decide (i = i) = true :=decide_eq_true rfl
    have d5 :=qbx T hi
    have gI :=qbm L (a :=2) (n :=n) (i :=i) (by omega) hir
    have hr :=hT i hi2
    refine Exists.elim hr.ex fun l hl2 => ?_
    have pw :=hl2.1
    have pt :=hl2.2
    have hle :=hr.le
    obtain ⟨t,et⟩ : ∃ t,t = gT T i :=⟨_,rfl⟩
    rw [← et] at pt hle
    have lL2 :=qax l
    refine Or.elim (Classical.em (t = [])) (fun ht0 => ?_) fun ht0 => ?_
    ·have eU:nlV (flN t) = .nils :=by rw [ht0];rfl
     rw [eU] at pt
     have hq:WkV .nils (xqV (gT T i)) :=by rw [← et,ht0];exact WkV.refl _
     have z2:((Int.tmod 0 2) == 0) = true :=rfl
     repeat ((first|refine qaf (nthP gI) ?_|refine qah (qae hir) ?_|refine qag (qae hir) ?_|refine pkT (qae hir) ?_|refine qaa (qae hir) ?_|refine qam (qae hir) ?_|refine qan (qae hir) ?_|refine pkF (qae hir) ?_|refine qab (qae hir) ?_|refine qah (qai hir) ?_|refine qag (qai hir) ?_|refine pkT (qai hir) ?_|refine qaa (qai hir) ?_|refine qad hC (pw) ?_|refine qad hC (pt) ?_|refine qad hC (qat z2 (gB L (i + 2))) ?_|refine qac hS (by kernel_rfl) ?_);conv => whnf)
     refine qao hE hS ?_
     conv => whnf
     repeat ((first|refine qah d1 ?_|refine qag d1 ?_|refine pkT d1 ?_|refine qaa d1 ?_|refine qah d2 ?_|refine qag d2 ?_|refine pkT d2 ?_|refine qaa d2 ?_|refine qah d4 ?_|refine qag d4 ?_|refine pkT d4 ?_|refine qaa d4 ?_|refine qah d5 ?_|refine qag d5 ?_|refine pkT d5 ?_|refine qaa d5 ?_|refine qam d5 ?_|refine qan d5 ?_|refine pkF d5 ?_|refine qab d5 ?_|refine qac hS (by kernel_rfl) ?_);conv => whnf)
     exact ⟨(i + 1,ptV T (i + 1),[.chain (i + 1) 1 45]),[22],⟨hi2,.inr ⟨Nat.succ_pos _,rfl,rfl⟩⟩,by show T.length - (i + 1) < T.length - i;omega,(by refine ⟨rfl,rfl,rfl,rfl,rfl,rfl,by decide,?_,?_,?_,by kernel_rfl,?_,?_⟩ <;> repeat' (first|exact trivial|exact rfl|exact ⟨_,rfl,RnV.wk (WkV.refl _) (Nat.zero_le _)⟩|exact ⟨_,rfl,RnV.wk (WkV.refl _) (kle rfl)⟩|exact TrIw.refl _ _ _ _ _|exact OWk.same _|exact OWk.loop _ _ _ _ _ _ _ (by repeat' (first|exact trivial|exact WkV.refl _|exact WkV.unk _|apply And.intro))|exact Nat.zero_le _|exact ⟨_,rfl,RnV.wk (WkV.int hi1) (Nat.zero_le _)⟩|exact ⟨_,rfl,qec hi2 hq⟩|exact qa3 _ _ (by decide)|exact qak lU|exact qak lN2|exact qak lM|exact qas (qal _) (by decide)|exact ⟨_,rfl,RnV.wk (WkV.refl _) (qak lU)⟩|exact ⟨_,rfl,RnV.wk (WkV.refl _) (qak lN2)⟩|exact kle rfl|exact bdq|exact mxI rfl|exact mxS rfl|apply And.intro))⟩
    ·have eU:nlV (flN t) = nl (zl (flN t)) :=if_neg fun z => ht0 (by rw [← qbi t,z];rfl)
     rw [eU] at pt
     have lM :=qa5 (zl (flN t))
     have hM:(zl (flN t)).length = 2 * t.length :=by rw [qbe,qaq]
     have ht1:0 < t.length :=List.length_pos_iff.2 ht0
     have z2:(Int.tmod ((zl (flN t)).length:Int) 2 == 0) = true :=by rw [hM];exact beq_iff_eq.2 (by rw [show ((2 * t.length:Nat):Int) = Int.ofNat (2 * t.length) from rfl,show (2:Int) = Int.ofNat 2 from rfl,qdn,Nat.mul_mod_right];rfl)
     have hg :=fun j (hj:j < t.length) => qbp t hj
     have gA:∀ j,j < t.length → nth (ivs (zl (flN t))) (2 * j * 1) = some (nv (gq t j).1) :=fun j hj => (qaw (l :=zl (flN t)) (i :=2 * j) (by omega)).trans (by rw [qbg (flN t) (by rw [qaq];omega),(hg j hj).1])
     have gB2:∀ j,j < t.length → nth (ivs (zl (flN t))) ((2 * j + 1) * 1) = some (nv (gq t j).2) :=fun j hj => (qaw (l :=zl (flN t)) (i :=2 * j + 1) (by omega)).trans (by rw [qbg (flN t) (by rw [qaq];omega),(hg j hj).2])
     have q0:2 * 0 < (zl (flN t)).length :=by omega
     have q1:2 * 0 + 1 < (zl (flN t)).length :=by omega
     have f1:AV.lst [nv (gq t 0).1,nv (gq t 0).2] (0 + 1) (.ch 35) = .lst (flat (zp (t.take 1))) 1 (.ch 35) :=by rw [qaz t ht1];rfl
     repeat ((first|refine qaf (nthP gI) ?_|refine qah (qae hir) ?_|refine qag (qae hir) ?_|refine pkT (qae hir) ?_|refine qaa (qae hir) ?_|refine qam (qae hir) ?_|refine qan (qae hir) ?_|refine pkF (qae hir) ?_|refine qab (qae hir) ?_|refine qah (qai hir) ?_|refine qag (qai hir) ?_|refine pkT (qai hir) ?_|refine qaa (qai hir) ?_|refine qad hC (pw) ?_|refine qad hC (pt) ?_|refine qad hC (qat z2 (gB L (i + 2))) ?_|refine qac hS (by kernel_rfl) ?_);conv => whnf)
     have w01:IntKind.i64.wrap (0 + 1) = Int.ofNat (2 * 0 + 1) :=by kernel_rfl
     have iq0:inR (IntKind.i64.wrap (0 + 1)) (zl (flN t)).length = true :=by rw [w01];exact qai q1
     have gq0:nth (ivs (zl (flN t))) ((IntKind.i64.wrap (0 + 1)).toNat * 1) = some (nv (gq t 0).2) :=by rw [w01];exact gB2 0 ht1
     refine qao hE hS ?_
     conv => whnf
     repeat ((first|refine qaf (nthP (gA 0 ht1)) ?_|refine qaf (nthP gq0) ?_|refine qah (qae q0) ?_|refine qag (qae q0) ?_|refine pkT (qae q0) ?_|refine qaa (qae q0) ?_|refine qam (qae q0) ?_|refine qan (qae q0) ?_|refine pkF (qae q0) ?_|refine qab (qae q0) ?_|refine qah (qai q0) ?_|refine qag (qai q0) ?_|refine pkT (qai q0) ?_|refine qaa (qai q0) ?_|refine qah iq0 ?_|refine qag iq0 ?_|refine pkT iq0 ?_|refine qaa iq0 ?_|refine qac hS (by kernel_rfl) ?_);conv => whnf)
     refine qar hE hS (A :=Nat) [0,2,9,10,13,67,68,69] (fun j => [(14,.lst (flat (zp (t.take j))) j (.ch 35)),(15,nv (2 * j))]) (fun j => [(35,.chain j 2 74)]) (fun _ => []) (fun j => 1 ≤ j ∧ j ≤ t.length) (fun j => t.length - j) 1 (kle rfl) rfl (by refine ⟨rfl,rfl,rfl,rfl,rfl,rfl,37,rfl,?_,?_⟩ <;> repeat' (first|exact trivial|exact rfl|exact wkr rfl|exact wko rfl|exact Nat.zero_le _|exact ⟨_,rfl,WkV.int (qav (m :=2) (by decide))⟩|exact ⟨_,rfl,WkV.eq f1⟩|exact qa3 _ _ (by decide)|exact qak lU|exact qak lN2|exact qak lM|exact qas (qal _) (by decide)|exact kle rfl|exact bdq|exact mxI rfl|exact mxS rfl|apply And.intro)) ⟨Nat.le_refl _,ht1⟩ ?_
     intro j ⟨hj,hjN⟩ K hK
     obtain rfl:K = 37 :=hK
     conv => whnf
     by_cases hj2:j < t.length
     ·have q0:2 * j < (zl (flN t)).length :=by omega
      have q1:2 * j + 1 < (zl (flN t)).length :=by omega
      have w1:IntKind.i64.wrap (Int.ofNat (2 * j) + 1) = Int.ofNat (2 * j + 1) :=qav (m :=2 * j + 1) (by omega)
      have w22:IntKind.i64.wrap (Int.ofNat (2 * j) + 2) = Int.ofNat (2 * (j + 1)) :=qav (m :=2 * (j + 1)) (by omega)
      have x1:decide ((j + (0 + 1)) * 16 ≤ 140737488355328) = true :=decide_eq_true (by omega)
      have x2:decide (j + (0 + 1) ≤ 9223372036854775807) = true :=decide_eq_true (by omega)
      have x4:decide (j = j) = true :=decide_eq_true rfl
      have x5 :=qbc t hjN
      have f2:AV.lst (flat (zp (t.take j)) ++ [nv (gq t j).1,nv (gq t j).2]) (j + (0 + 1)) (.ch 35) = .lst (flat (zp (t.take (j + 1)))) (j + 1) (.ch 35) :=by rw [qaz t hj2,qa6]
      have iq:inR (IntKind.i64.wrap (Int.ofNat (2 * j) + 1)) (zl (flN t)).length = true :=by rw [w1];exact qai q1
      have gq1:nth (ivs (zl (flN t))) ((IntKind.i64.wrap (Int.ofNat (2 * j) + 1)).toNat * 1) = some (nv (gq t j).2) :=by rw [w1];exact gB2 j hj2
      repeat ((first|refine qaf (nthP (gA j hj2)) ?_|refine qaf (nthP gq1) ?_|refine qah (qae q0) ?_|refine qag (qae q0) ?_|refine pkT (qae q0) ?_|refine qaa (qae q0) ?_|refine qam (qae q0) ?_|refine qan (qae q0) ?_|refine pkF (qae q0) ?_|refine qab (qae q0) ?_|refine qah (qai q0) ?_|refine qag (qai q0) ?_|refine pkT (qai q0) ?_|refine qaa (qai q0) ?_|refine qah iq ?_|refine qag iq ?_|refine pkT iq ?_|refine qaa iq ?_|refine qah x1 ?_|refine qag x1 ?_|refine pkT x1 ?_|refine qaa x1 ?_|refine qah x2 ?_|refine qag x2 ?_|refine pkT x2 ?_|refine qaa x2 ?_|refine qah x4 ?_|refine qag x4 ?_|refine pkT x4 ?_|refine qaa x4 ?_|refine qah x5 ?_|refine qag x5 ?_|refine pkT x5 ?_|refine qaa x5 ?_|refine qam x5 ?_|refine qan x5 ?_|refine pkF x5 ?_|refine qab x5 ?_|refine qac hS (by kernel_rfl) ?_);conv => whnf)
      exact ⟨j + 1,⟨by omega,hj2⟩,by omega,kle rfl,(by refine ⟨rfl,rfl,rfl,rfl,rfl,rfl,37,rfl,?_,?_⟩ <;> repeat' (first|exact trivial|exact rfl|exact wkr rfl|exact wko rfl|exact Nat.zero_le _|exact ⟨_,rfl,WkV.int w22⟩|exact ⟨_,rfl,WkV.eq f2⟩|exact qa3 _ _ (by decide)|exact qak lU|exact qak lN2|exact qak lM|exact qas (qal _) (by decide)|exact kle rfl|exact bdq|exact mxI rfl|exact mxS rfl|apply And.intro))⟩
     ·have hjE:j = t.length :=by omega
      refine qab (qa9 (show ¬ 2 * j < (zl (flN t)).length by omega)) ?_
      conv => whnf
      refine .inl ?_
      conv => whnf
      have hq:WkV (.lst (flat (zp (t.take j))) j (.ch 35)) (xqV (gT T i)) :=by rw [← et,hjE,List.take_length];exact qbq ht0 rfl
      repeat ((first|refine qah d1 ?_|refine qag d1 ?_|refine pkT d1 ?_|refine qaa d1 ?_|refine qah d2 ?_|refine qag d2 ?_|refine pkT d2 ?_|refine qaa d2 ?_|refine qah d4 ?_|refine qag d4 ?_|refine pkT d4 ?_|refine qaa d4 ?_|refine qah d5 ?_|refine qag d5 ?_|refine pkT d5 ?_|refine qaa d5 ?_|refine qam d5 ?_|refine qan d5 ?_|refine pkF d5 ?_|refine qab d5 ?_|refine qac hS (by kernel_rfl) ?_);conv => whnf)
      exact ⟨(i + 1,ptV T (i + 1),[.chain (i + 1) 1 45]),[22],⟨hi2,.inr ⟨Nat.succ_pos _,rfl,rfl⟩⟩,by show T.length - (i + 1) < T.length - i;omega,(by refine ⟨rfl,rfl,rfl,rfl,rfl,rfl,by decide,?_,?_,?_,by kernel_rfl,?_,?_⟩ <;> repeat' (first|exact trivial|exact rfl|exact ⟨_,rfl,RnV.wk (WkV.refl _) (Nat.zero_le _)⟩|exact ⟨_,rfl,RnV.wk (WkV.refl _) (kle rfl)⟩|exact TrIw.refl _ _ _ _ _|exact OWk.same _|exact OWk.loop _ _ _ _ _ _ _ (by repeat' (first|exact trivial|exact WkV.refl _|exact WkV.unk _|apply And.intro))|exact Nat.zero_le _|exact ⟨_,rfl,RnV.wk (WkV.int hi1) (Nat.zero_le _)⟩|exact ⟨_,rfl,qec hi2 hq⟩|exact qa3 _ _ (by decide)|exact qak lU|exact qak lN2|exact qak lM|exact qas (qal _) (by decide)|exact ⟨_,rfl,RnV.wk (WkV.refl _) (qak lU)⟩|exact ⟨_,rfl,RnV.wk (WkV.refl _) (qak lN2)⟩|exact kle rfl|exact bdq|exact mxI rfl|exact mxS rfl|apply And.intro))⟩
   ·have hiE:T.length = i :=by omega
    have eT:ptV T i = .lst (xqs T) T.length (.ch 22) :=by unfold ptV;rw [← hiE,List.take_length]
    have pT :=qdg (r :=(a,b,c,d + 1)) (c :=22) hNI (.inr eT) oR sW
    refine qab (qa9 (show ¬ i < n by omega)) ?_
    conv => whnf
    repeat ((first|refine qad hC (pT) ?_|refine qac hS (by kernel_rfl) ?_);conv => whnf)
    refine qa7 hC ?_
    conv => whnf
    refine qba hS (qb8 te s) ?_
    conv => whnf
 ·refine qbs hE rfl (by repeat' first|exact trivial|assumption|exact qal _|exact fun _ h => nomatch h|apply And.intro) (by simp [noP,Live,Lives]) fun S q pc hS hq hC hE => ?_
  conv => whnf
  repeat ((first|refine qaf (nthP n0) ?_|refine qah ir0 ?_|refine qag ir0 ?_|refine pkT ir0 ?_|refine qaa ir0 ?_|refine qad hC (pS) ?_|refine qad hC (qat g4 s) ?_|refine qad hC (w0) ?_|refine qad hC (qat h44 s) ?_|refine qad hC (qbu) ?_|refine qac hS (by kernel_rfl) ?_);conv => whnf)
  refine qaf (p' :=.ret (.slc 1 0 3 3)) (by kernel_rfl) ?_
  conv => whnf
  repeat ((first|refine qac hS (by kernel_rfl) ?_);conv => whnf)
  refine qb2 hC (HFun.pureR pX (ob2S ⟨rfl,rfl,trivial⟩)) ?_
  conv => whnf
  repeat ((first|refine qad hC (qat gS s) ?_|refine qac hS (by kernel_rfl) ?_);conv => whnf)
  refine qaf (p' :=.chk true (.ret (.lst (stA [p1,p2,p3]) 3 .no))) (by kernel_rfl) ?_
  conv => whnf
  repeat ((first|refine qaf (nthP n1) ?_|refine qaf (qh5 (e :=9) (inf :=t9) (L :=L) (a :=2) (n :=n) (by kernel_rfl) (by kernel_rfl) (by kernel_rfl) rfl w2 (by omega)) ?_|refine qah ir1 ?_|refine qag ir1 ?_|refine pkT ir1 ?_|refine qaa ir1 ?_|refine qad hC (t0) ?_|refine qad hC (w1) ?_|refine qad hC (t1) ?_|refine qac hS (by kernel_rfl) ?_);conv => whnf)
  have lU :=qax ((L.drop 2).take n)
  have eO:AObj.cells (.node (nv a) (.node (nv b) (.node (iv (IntKind.i64.wrap (1 + Int.ofNat d))) .nil .nil) .nil) (.node (nv c) (.node (nl (zl V)) .nil .nil) .nil)) 5 25 = .cells (.node (nv a) (.node (nv b) (.node (nv (d + 1)) .nil .nil) .nil) (.node (nv c) (.node (nl (zl V)) .nil .nil) .nil)) 5 25 :=by rw [w5]
  have oO:OWk (.cells (.node (nv a) (.node (nv b) (.node (iv (IntKind.i64.wrap (1 + Int.ofNat d))) .nil .nil) .nil) (.node (nv c) (.node (nl (zl V)) .nil .nil) .nil)) 5 25) (.cells (.node (nv a) (.node (nv b) (.node (nv (d + 1)) .nil .nil) .nil) (.node (nv c) (.node (nl (zl V)) .nil .nil) .nil)) 5 25) :=eO ▸ OWk.same _
  refine qbn hE hS (A :=Nat × AV × List AObj) [] (fun x hx => nomatch hx) [0,2,9,67,68] (fun (i,v,_) => [(10,v),(69,nv i)]) (fun _ => [(20,.cells (.node (nv a) (.node (nv b) (.node (nv (d + 1)) .nil .nil) .nil) (.node (nv c) (.node (nl (zl V)) .nil .nil) .nil)) 5 25)]) (fun a => a.2.2) (fun (i,v,ux) => i ≤ T.length ∧ grT T i v ux) (fun (i,_,_) => T.length - i) (0,.nils,[]) (kle rfl) trivial rfl (by repeat' (first|exact trivial|exact Nat.zero_le _|exact qa3 _ _ (by decide)|exact qak lU|exact qak lN2|exact qak lM|exact qas (qal _) (by decide)|exact kle rfl|exact bdq|exact mxI rfl|exact mxS rfl|apply And.intro)) (by refine ⟨rfl,rfl,rfl,rfl,rfl,rfl,by decide,?_,?_,?_,by kernel_rfl,?_,?_⟩ <;> repeat' (first|exact trivial|exact rfl|exact ⟨_,rfl,RnV.wk (WkV.refl _) (Nat.zero_le _)⟩|exact ⟨_,rfl,RnV.wk (WkV.refl _) (kle rfl)⟩|exact TrIw.refl _ _ _ _ _|exact OWk.same _|exact OWk.loop _ _ _ _ _ _ _ (by repeat' (first|exact trivial|exact WkV.refl _|exact WkV.unk _|apply And.intro))|exact Nat.zero_le _|exact oO|exact qa3 _ _ (by decide)|exact qak lU|exact qak lN2|exact qak lM|exact qas (qal _) (by decide)|exact ⟨_,rfl,RnV.wk (WkV.refl _) (qak lU)⟩|exact ⟨_,rfl,RnV.wk (WkV.refl _) (qak lN2)⟩|exact kle rfl|exact bdq|exact mxI rfl|exact mxS rfl|apply And.intro)) ⟨Nat.zero_le _,.inl ⟨rfl,rfl,rfl⟩⟩ ?_
  rintro ⟨i,v,ux⟩ ⟨hi,hv⟩ K hK
  have hi:i ≤ T.length :=hi
  refine Or.elim hv (fun hv => ?_) fun hv => ?_
  ·obtain ⟨rfl,rfl,rfl⟩ :=hv
   obtain rfl:K = 22 :=hK
   conv => whnf
   by_cases hi2:0 < T.length
   ·have hir:0 < n :=by omega
    have hi1:IntKind.i64.wrap (Int.ofNat 0 + 1) = Int.ofNat (0 + 1) :=qav (m :=0 + 1) (by omega)
    have gI :=qbm L (a :=2) (n :=n) (i :=0) (by omega) hir
    have hr :=hT 0 hi2
    refine Exists.elim hr.ex fun l hl2 => ?_
    have pw :=hl2.1
    have pt :=hl2.2
    have hle :=hr.le
    obtain ⟨t,et⟩ : ∃ t,t = gT T 0 :=⟨_,rfl⟩
    rw [← et] at pt hle
    have lL2 :=qax l
    refine Or.elim (Classical.em (t = [])) (fun ht0 => ?_) fun ht0 => ?_
    ·have eU:nlV (flN t) = .nils :=by rw [ht0];rfl
     rw [eU] at pt
     have hq:WkV .nils (xqV (gT T 0)) :=by rw [← et,ht0];exact WkV.refl _
     have z2:((Int.tmod 0 2) == 0) = true :=rfl
     repeat ((first|refine qaf (nthP gI) ?_|refine qah (qae hir) ?_|refine qag (qae hir) ?_|refine pkT (qae hir) ?_|refine qaa (qae hir) ?_|refine qam (qae hir) ?_|refine qan (qae hir) ?_|refine pkF (qae hir) ?_|refine qab (qae hir) ?_|refine qah (qai hir) ?_|refine qag (qai hir) ?_|refine pkT (qai hir) ?_|refine qaa (qai hir) ?_|refine qad hC (pw) ?_|refine qad hC (pt) ?_|refine qad hC (qat z2 (gB L (0 + 2))) ?_|refine qac hS (by kernel_rfl) ?_);conv => whnf)
     refine qao hE hS ?_
     conv => whnf
     repeat ((first|refine qac hS (by kernel_rfl) ?_);conv => whnf)
     exact ⟨(1,ptV T 1,[.chain 1 1 45]),[22],⟨hi2,.inr ⟨Nat.zero_lt_one,rfl,rfl⟩⟩,by show T.length - 1 < T.length - 0;omega,(by refine ⟨rfl,rfl,rfl,rfl,rfl,rfl,by decide,?_,?_,?_,by kernel_rfl,?_,?_⟩ <;> repeat' (first|exact trivial|exact rfl|exact ⟨_,rfl,RnV.wk (WkV.refl _) (Nat.zero_le _)⟩|exact ⟨_,rfl,RnV.wk (WkV.refl _) (kle rfl)⟩|exact TrIw.refl _ _ _ _ _|exact OWk.same _|exact OWk.loop _ _ _ _ _ _ _ (by repeat' (first|exact trivial|exact WkV.refl _|exact WkV.unk _|apply And.intro))|exact Nat.zero_le _|exact ⟨_,rfl,RnV.wk (WkV.int hi1) (Nat.zero_le _)⟩|exact ⟨_,rfl,qcz hi2 hq⟩|exact qa3 _ _ (by decide)|exact qak lU|exact qak lN2|exact qak lM|exact qas (qal _) (by decide)|exact ⟨_,rfl,RnV.wk (WkV.refl _) (qak lU)⟩|exact ⟨_,rfl,RnV.wk (WkV.refl _) (qak lN2)⟩|exact kle rfl|exact bdq|exact mxI rfl|exact mxS rfl|apply And.intro))⟩
    ·have eU:nlV (flN t) = nl (zl (flN t)) :=if_neg fun z => ht0 (by rw [← qbi t,z];rfl)
     rw [eU] at pt
     have lM :=qa5 (zl (flN t))
     have hM:(zl (flN t)).length = 2 * t.length :=by rw [qbe,qaq]
     have ht1:0 < t.length :=List.length_pos_iff.2 ht0
     have z2:(Int.tmod ((zl (flN t)).length:Int) 2 == 0) = true :=by rw [hM];exact beq_iff_eq.2 (by rw [show ((2 * t.length:Nat):Int) = Int.ofNat (2 * t.length) from rfl,show (2:Int) = Int.ofNat 2 from rfl,qdn,Nat.mul_mod_right];rfl)
     have hg :=fun j (hj:j < t.length) => qbp t hj
     have gA:∀ j,j < t.length → nth (ivs (zl (flN t))) (2 * j * 1) = some (nv (gq t j).1) :=fun j hj => (qaw (l :=zl (flN t)) (i :=2 * j) (by omega)).trans (by rw [qbg (flN t) (by rw [qaq];omega),(hg j hj).1])
     have gB2:∀ j,j < t.length → nth (ivs (zl (flN t))) ((2 * j + 1) * 1) = some (nv (gq t j).2) :=fun j hj => (qaw (l :=zl (flN t)) (i :=2 * j + 1) (by omega)).trans (by rw [qbg (flN t) (by rw [qaq];omega),(hg j hj).2])
     have q0:2 * 0 < (zl (flN t)).length :=by omega
     have q1:2 * 0 + 1 < (zl (flN t)).length :=by omega
     have f1:AV.lst [nv (gq t 0).1,nv (gq t 0).2] (0 + 1) (.ch 34) = .lst (flat (zp (t.take 1))) 1 (.ch 34) :=by rw [qaz t ht1];rfl
     repeat ((first|refine qaf (nthP gI) ?_|refine qah (qae hir) ?_|refine qag (qae hir) ?_|refine pkT (qae hir) ?_|refine qaa (qae hir) ?_|refine qam (qae hir) ?_|refine qan (qae hir) ?_|refine pkF (qae hir) ?_|refine qab (qae hir) ?_|refine qah (qai hir) ?_|refine qag (qai hir) ?_|refine pkT (qai hir) ?_|refine qaa (qai hir) ?_|refine qad hC (pw) ?_|refine qad hC (pt) ?_|refine qad hC (qat z2 (gB L (0 + 2))) ?_|refine qac hS (by kernel_rfl) ?_);conv => whnf)
     have w01:IntKind.i64.wrap (0 + 1) = Int.ofNat (2 * 0 + 1) :=by kernel_rfl
     have iq0:inR (IntKind.i64.wrap (0 + 1)) (zl (flN t)).length = true :=by rw [w01];exact qai q1
     have gq0:nth (ivs (zl (flN t))) ((IntKind.i64.wrap (0 + 1)).toNat * 1) = some (nv (gq t 0).2) :=by rw [w01];exact gB2 0 ht1
     refine qao hE hS ?_
     conv => whnf
     repeat ((first|refine qaf (nthP (gA 0 ht1)) ?_|refine qaf (nthP gq0) ?_|refine qah (qae q0) ?_|refine qag (qae q0) ?_|refine pkT (qae q0) ?_|refine qaa (qae q0) ?_|refine qam (qae q0) ?_|refine qan (qae q0) ?_|refine pkF (qae q0) ?_|refine qab (qae q0) ?_|refine qah (qai q0) ?_|refine qag (qai q0) ?_|refine pkT (qai q0) ?_|refine qaa (qai q0) ?_|refine qah iq0 ?_|refine qag iq0 ?_|refine pkT iq0 ?_|refine qaa iq0 ?_|refine qac hS (by kernel_rfl) ?_);conv => whnf)
     refine qar hE hS (A :=Nat) [0,2,9,10,13,67,68,69] (fun j => [(14,.lst (flat (zp (t.take j))) j (.ch 34)),(15,nv (2 * j))]) (fun j => [(34,.chain j 2 74)]) (fun _ => []) (fun j => 1 ≤ j ∧ j ≤ t.length) (fun j => t.length - j) 1 (kle rfl) rfl (by refine ⟨rfl,rfl,rfl,rfl,rfl,rfl,36,rfl,?_,?_⟩ <;> repeat' (first|exact trivial|exact rfl|exact wkr rfl|exact wko rfl|exact Nat.zero_le _|exact ⟨_,rfl,WkV.int (qav (m :=2) (by decide))⟩|exact ⟨_,rfl,WkV.eq f1⟩|exact qa3 _ _ (by decide)|exact qak lU|exact qak lN2|exact qak lM|exact qas (qal _) (by decide)|exact kle rfl|exact bdq|exact mxI rfl|exact mxS rfl|apply And.intro)) ⟨Nat.le_refl _,ht1⟩ ?_
     intro j ⟨hj,hjN⟩ K hK
     obtain rfl:K = 36 :=hK
     conv => whnf
     by_cases hj2:j < t.length
     ·have q0:2 * j < (zl (flN t)).length :=by omega
      have q1:2 * j + 1 < (zl (flN t)).length :=by omega
      have w1:IntKind.i64.wrap (Int.ofNat (2 * j) + 1) = Int.ofNat (2 * j + 1) :=qav (m :=2 * j + 1) (by omega)
      have w22:IntKind.i64.wrap (Int.ofNat (2 * j) + 2) = Int.ofNat (2 * (j + 1)) :=qav (m :=2 * (j + 1)) (by omega)
      have x1:decide ((j + (0 + 1)) * 16 ≤ 140737488355328) = true :=decide_eq_true (by omega)
      have x2:decide (j + (0 + 1) ≤ 9223372036854775807) = true :=decide_eq_true (by omega)
      have x4:decide (j = j) = true :=decide_eq_true rfl
      have x5 :=qbc t hjN
      have f2:AV.lst (flat (zp (t.take j)) ++ [nv (gq t j).1,nv (gq t j).2]) (j + (0 + 1)) (.ch 34) = .lst (flat (zp (t.take (j + 1)))) (j + 1) (.ch 34) :=by rw [qaz t hj2,qa6]
      have iq:inR (IntKind.i64.wrap (Int.ofNat (2 * j) + 1)) (zl (flN t)).length = true :=by rw [w1];exact qai q1
      have gq1:nth (ivs (zl (flN t))) ((IntKind.i64.wrap (Int.ofNat (2 * j) + 1)).toNat * 1) = some (nv (gq t j).2) :=by rw [w1];exact gB2 j hj2
      repeat ((first|refine qaf (nthP (gA j hj2)) ?_|refine qaf (nthP gq1) ?_|refine qah (qae q0) ?_|refine qag (qae q0) ?_|refine pkT (qae q0) ?_|refine qaa (qae q0) ?_|refine qam (qae q0) ?_|refine qan (qae q0) ?_|refine pkF (qae q0) ?_|refine qab (qae q0) ?_|refine qah (qai q0) ?_|refine qag (qai q0) ?_|refine pkT (qai q0) ?_|refine qaa (qai q0) ?_|refine qah iq ?_|refine qag iq ?_|refine pkT iq ?_|refine qaa iq ?_|refine qah x1 ?_|refine qag x1 ?_|refine pkT x1 ?_|refine qaa x1 ?_|refine qah x2 ?_|refine qag x2 ?_|refine pkT x2 ?_|refine qaa x2 ?_|refine qah x4 ?_|refine qag x4 ?_|refine pkT x4 ?_|refine qaa x4 ?_|refine qah x5 ?_|refine qag x5 ?_|refine pkT x5 ?_|refine qaa x5 ?_|refine qam x5 ?_|refine qan x5 ?_|refine pkF x5 ?_|refine qab x5 ?_|refine qac hS (by kernel_rfl) ?_);conv => whnf)
      exact ⟨j + 1,⟨by omega,hj2⟩,by omega,kle rfl,(by refine ⟨rfl,rfl,rfl,rfl,rfl,rfl,36,rfl,?_,?_⟩ <;> repeat' (first|exact trivial|exact rfl|exact wkr rfl|exact wko rfl|exact Nat.zero_le _|exact ⟨_,rfl,WkV.int w22⟩|exact ⟨_,rfl,WkV.eq f2⟩|exact qa3 _ _ (by decide)|exact qak lU|exact qak lN2|exact qak lM|exact qas (qal _) (by decide)|exact kle rfl|exact bdq|exact mxI rfl|exact mxS rfl|apply And.intro))⟩
     ·have hjE:j = t.length :=by omega
      refine qab (qa9 (show ¬ 2 * j < (zl (flN t)).length by omega)) ?_
      conv => whnf
      refine .inl ?_
      conv => whnf
      have hq:WkV (.lst (flat (zp (t.take j))) j (.ch 34)) (xqV (gT T 0)) :=by rw [← et,hjE,List.take_length];exact qbq ht0 rfl
      repeat ((first|refine qac hS (by kernel_rfl) ?_);conv => whnf)
      exact ⟨(1,ptV T 1,[.chain 1 1 45]),[36],⟨hi2,.inr ⟨Nat.zero_lt_one,rfl,rfl⟩⟩,by show T.length - 1 < T.length - 0;omega,(by refine ⟨rfl,rfl,rfl,rfl,rfl,rfl,by decide,?_,?_,?_,by kernel_rfl,?_,?_⟩ <;> repeat' (first|exact trivial|exact rfl|exact ⟨_,rfl,RnV.wk (WkV.refl _) (Nat.zero_le _)⟩|exact ⟨_,rfl,RnV.wk (WkV.refl _) (kle rfl)⟩|exact TrIw.refl _ _ _ _ _|exact OWk.same _|exact OWk.loop _ _ _ _ _ _ _ (by repeat' (first|exact trivial|exact WkV.refl _|exact WkV.unk _|apply And.intro))|exact Nat.zero_le _|exact ⟨_,rfl,RnV.wk (WkV.int hi1) (Nat.zero_le _)⟩|exact ⟨_,rfl,qcz hi2 hq⟩|exact qa3 _ _ (by decide)|exact qak lU|exact qak lN2|exact qak lM|exact qas (qal _) (by decide)|exact ⟨_,rfl,RnV.wk (WkV.refl _) (qak lU)⟩|exact ⟨_,rfl,RnV.wk (WkV.refl _) (qak lN2)⟩|exact kle rfl|exact bdq|exact mxI rfl|exact mxS rfl|apply And.intro))⟩
   ·have hiE:T.length = 0 :=by omega
    have pT :=qdg (r :=(a,b,c,d + 1)) (c :=22) hNI (.inl ⟨rfl,List.eq_nil_of_length_eq_zero hiE⟩) oR sW
    refine qab (qa9 (show ¬ 0 < n by omega)) ?_
    conv => whnf
    repeat ((first|refine qad hC (pT) ?_|refine qac hS (by kernel_rfl) ?_);conv => whnf)
    refine qa7 hC ?_
    conv => whnf
    refine qba hS (qb8 te s) ?_
    conv => whnf
  ·obtain ⟨hj9,rfl,rfl⟩ :=hv
   obtain rfl:K = 23 :=hK
   conv => whnf
   by_cases hi2:i < T.length
   ·have hir:i < n :=by omega
    have hi1:IntKind.i64.wrap (Int.ofNat i + 1) = Int.ofNat (i + 1) :=qav (m :=i + 1) (by omega)
    have d1:decide ((i + (0 + 1)) * 24 ≤ 140737488355328) = true :=decide_eq_true (by omega)
    have d2:decide (i + (0 + 1) ≤ 9223372036854775807) = true :=decide_eq_true (by omega)
    have d4:decide (i = i) = true :=decide_eq_true rfl
    have d5 :=qbx T hi
    have gI :=qbm L (a :=2) (n :=n) (i :=i) (by omega) hir
    have hr :=hT i hi2
    refine Exists.elim hr.ex fun l hl2 => ?_
    have pw :=hl2.1
    have pt :=hl2.2
    have hle :=hr.le
    obtain ⟨t,et⟩ : ∃ t,t = gT T i :=⟨_,rfl⟩
    rw [← et] at pt hle
    have lL2 :=qax l
    refine Or.elim (Classical.em (t = [])) (fun ht0 => ?_) fun ht0 => ?_
    ·have eU:nlV (flN t) = .nils :=by rw [ht0];rfl
     rw [eU] at pt
     have hq:WkV .nils (xqV (gT T i)) :=by rw [← et,ht0];exact WkV.refl _
     have z2:((Int.tmod 0 2) == 0) = true :=rfl
     repeat ((first|refine qaf (nthP gI) ?_|refine qah (qae hir) ?_|refine qag (qae hir) ?_|refine pkT (qae hir) ?_|refine qaa (qae hir) ?_|refine qam (qae hir) ?_|refine qan (qae hir) ?_|refine pkF (qae hir) ?_|refine qab (qae hir) ?_|refine qah (qai hir) ?_|refine qag (qai hir) ?_|refine pkT (qai hir) ?_|refine qaa (qai hir) ?_|refine qad hC (pw) ?_|refine qad hC (pt) ?_|refine qad hC (qat z2 (gB L (i + 2))) ?_|refine qac hS (by kernel_rfl) ?_);conv => whnf)
     refine qao hE hS ?_
     conv => whnf
     repeat ((first|refine qah d1 ?_|refine qag d1 ?_|refine pkT d1 ?_|refine qaa d1 ?_|refine qah d2 ?_|refine qag d2 ?_|refine pkT d2 ?_|refine qaa d2 ?_|refine qah d4 ?_|refine qag d4 ?_|refine pkT d4 ?_|refine qaa d4 ?_|refine qah d5 ?_|refine qag d5 ?_|refine pkT d5 ?_|refine qaa d5 ?_|refine qam d5 ?_|refine qan d5 ?_|refine pkF d5 ?_|refine qab d5 ?_|refine qac hS (by kernel_rfl) ?_);conv => whnf)
     exact ⟨(i + 1,ptV T (i + 1),[.chain (i + 1) 1 45]),[22],⟨hi2,.inr ⟨Nat.succ_pos _,rfl,rfl⟩⟩,by show T.length - (i + 1) < T.length - i;omega,(by refine ⟨rfl,rfl,rfl,rfl,rfl,rfl,by decide,?_,?_,?_,by kernel_rfl,?_,?_⟩ <;> repeat' (first|exact trivial|exact rfl|exact ⟨_,rfl,RnV.wk (WkV.refl _) (Nat.zero_le _)⟩|exact ⟨_,rfl,RnV.wk (WkV.refl _) (kle rfl)⟩|exact TrIw.refl _ _ _ _ _|exact OWk.same _|exact OWk.loop _ _ _ _ _ _ _ (by repeat' (first|exact trivial|exact WkV.refl _|exact WkV.unk _|apply And.intro))|exact Nat.zero_le _|exact ⟨_,rfl,RnV.wk (WkV.int hi1) (Nat.zero_le _)⟩|exact ⟨_,rfl,qec hi2 hq⟩|exact qa3 _ _ (by decide)|exact qak lU|exact qak lN2|exact qak lM|exact qas (qal _) (by decide)|exact ⟨_,rfl,RnV.wk (WkV.refl _) (qak lU)⟩|exact ⟨_,rfl,RnV.wk (WkV.refl _) (qak lN2)⟩|exact kle rfl|exact bdq|exact mxI rfl|exact mxS rfl|apply And.intro))⟩
    ·have eU:nlV (flN t) = nl (zl (flN t)) :=if_neg fun z => ht0 (by rw [← qbi t,z];rfl)
     rw [eU] at pt
     have lM :=qa5 (zl (flN t))
     have hM:(zl (flN t)).length = 2 * t.length :=by rw [qbe,qaq]
     have ht1:0 < t.length :=List.length_pos_iff.2 ht0
     have z2:(Int.tmod ((zl (flN t)).length:Int) 2 == 0) = true :=by rw [hM];exact beq_iff_eq.2 (by rw [show ((2 * t.length:Nat):Int) = Int.ofNat (2 * t.length) from rfl,show (2:Int) = Int.ofNat 2 from rfl,qdn,Nat.mul_mod_right];rfl)
     have hg :=fun j (hj:j < t.length) => qbp t hj
     have gA:∀ j,j < t.length → nth (ivs (zl (flN t))) (2 * j * 1) = some (nv (gq t j).1) :=fun j hj => (qaw (l :=zl (flN t)) (i :=2 * j) (by omega)).trans (by rw [qbg (flN t) (by rw [qaq];omega),(hg j hj).1])
     have gB2:∀ j,j < t.length → nth (ivs (zl (flN t))) ((2 * j + 1) * 1) = some (nv (gq t j).2) :=fun j hj => (qaw (l :=zl (flN t)) (i :=2 * j + 1) (by omega)).trans (by rw [qbg (flN t) (by rw [qaq];omega),(hg j hj).2])
     have q0:2 * 0 < (zl (flN t)).length :=by omega
     have q1:2 * 0 + 1 < (zl (flN t)).length :=by omega
     have f1:AV.lst [nv (gq t 0).1,nv (gq t 0).2] (0 + 1) (.ch 35) = .lst (flat (zp (t.take 1))) 1 (.ch 35) :=by rw [qaz t ht1];rfl
     repeat ((first|refine qaf (nthP gI) ?_|refine qah (qae hir) ?_|refine qag (qae hir) ?_|refine pkT (qae hir) ?_|refine qaa (qae hir) ?_|refine qam (qae hir) ?_|refine qan (qae hir) ?_|refine pkF (qae hir) ?_|refine qab (qae hir) ?_|refine qah (qai hir) ?_|refine qag (qai hir) ?_|refine pkT (qai hir) ?_|refine qaa (qai hir) ?_|refine qad hC (pw) ?_|refine qad hC (pt) ?_|refine qad hC (qat z2 (gB L (i + 2))) ?_|refine qac hS (by kernel_rfl) ?_);conv => whnf)
     have w01:IntKind.i64.wrap (0 + 1) = Int.ofNat (2 * 0 + 1) :=by kernel_rfl
     have iq0:inR (IntKind.i64.wrap (0 + 1)) (zl (flN t)).length = true :=by rw [w01];exact qai q1
     have gq0:nth (ivs (zl (flN t))) ((IntKind.i64.wrap (0 + 1)).toNat * 1) = some (nv (gq t 0).2) :=by rw [w01];exact gB2 0 ht1
     refine qao hE hS ?_
     conv => whnf
     repeat ((first|refine qaf (nthP (gA 0 ht1)) ?_|refine qaf (nthP gq0) ?_|refine qah (qae q0) ?_|refine qag (qae q0) ?_|refine pkT (qae q0) ?_|refine qaa (qae q0) ?_|refine qam (qae q0) ?_|refine qan (qae q0) ?_|refine pkF (qae q0) ?_|refine qab (qae q0) ?_|refine qah (qai q0) ?_|refine qag (qai q0) ?_|refine pkT (qai q0) ?_|refine qaa (qai q0) ?_|refine qah iq0 ?_|refine qag iq0 ?_|refine pkT iq0 ?_|refine qaa iq0 ?_|refine qac hS (by kernel_rfl) ?_);conv => whnf)
     refine qar hE hS (A :=Nat) [0,2,9,10,13,67,68,69] (fun j => [(14,.lst (flat (zp (t.take j))) j (.ch 35)),(15,nv (2 * j))]) (fun j => [(35,.chain j 2 74)]) (fun _ => []) (fun j => 1 ≤ j ∧ j ≤ t.length) (fun j => t.length - j) 1 (kle rfl) rfl (by refine ⟨rfl,rfl,rfl,rfl,rfl,rfl,37,rfl,?_,?_⟩ <;> repeat' (first|exact trivial|exact rfl|exact wkr rfl|exact wko rfl|exact Nat.zero_le _|exact ⟨_,rfl,WkV.int (qav (m :=2) (by decide))⟩|exact ⟨_,rfl,WkV.eq f1⟩|exact qa3 _ _ (by decide)|exact qak lU|exact qak lN2|exact qak lM|exact qas (qal _) (by decide)|exact kle rfl|exact bdq|exact mxI rfl|exact mxS rfl|apply And.intro)) ⟨Nat.le_refl _,ht1⟩ ?_
     intro j ⟨hj,hjN⟩ K hK
     obtain rfl:K = 37 :=hK
     conv => whnf
     by_cases hj2:j < t.length
     ·have q0:2 * j < (zl (flN t)).length :=by omega
      have q1:2 * j + 1 < (zl (flN t)).length :=by omega
      have w1:IntKind.i64.wrap (Int.ofNat (2 * j) + 1) = Int.ofNat (2 * j + 1) :=qav (m :=2 * j + 1) (by omega)
      have w22:IntKind.i64.wrap (Int.ofNat (2 * j) + 2) = Int.ofNat (2 * (j + 1)) :=qav (m :=2 * (j + 1)) (by omega)
      have x1:decide ((j + (0 + 1)) * 16 ≤ 140737488355328) = true :=decide_eq_true (by omega)
      have x2:decide (j + (0 + 1) ≤ 9223372036854775807) = true :=decide_eq_true (by omega)
      have x4:decide (j = j) = true :=decide_eq_true rfl
      have x5 :=qbc t hjN
      have f2:AV.lst (flat (zp (t.take j)) ++ [nv (gq t j).1,nv (gq t j).2]) (j + (0 + 1)) (.ch 35) = .lst (flat (zp (t.take (j + 1)))) (j + 1) (.ch 35) :=by rw [qaz t hj2,qa6]
      have iq:inR (IntKind.i64.wrap (Int.ofNat (2 * j) + 1)) (zl (flN t)).length = true :=by rw [w1];exact qai q1
      have gq1:nth (ivs (zl (flN t))) ((IntKind.i64.wrap (Int.ofNat (2 * j) + 1)).toNat * 1) = some (nv (gq t j).2) :=by rw [w1];exact gB2 j hj2
      repeat ((first|refine qaf (nthP (gA j hj2)) ?_|refine qaf (nthP gq1) ?_|refine qah (qae q0) ?_|refine qag (qae q0) ?_|refine pkT (qae q0) ?_|refine qaa (qae q0) ?_|refine qam (qae q0) ?_|refine qan (qae q0) ?_|refine pkF (qae q0) ?_|refine qab (qae q0) ?_|refine qah (qai q0) ?_|refine qag (qai q0) ?_|refine pkT (qai q0) ?_|refine qaa (qai q0) ?_|refine qah iq ?_|refine qag iq ?_|refine pkT iq ?_|refine qaa iq ?_|refine qah x1 ?_|refine qag x1 ?_|refine pkT x1 ?_|refine qaa x1 ?_|refine qah x2 ?_|refine qag x2 ?_|refine pkT x2 ?_|refine qaa x2 ?_|refine qah x4 ?_|refine qag x4 ?_|refine pkT x4 ?_|refine qaa x4 ?_|refine qah x5 ?_|refine qag x5 ?_|refine pkT x5 ?_|refine qaa x5 ?_|refine qam x5 ?_|refine qan x5 ?_|refine pkF x5 ?_|refine qab x5 ?_|refine qac hS (by kernel_rfl) ?_);conv => whnf)
      exact ⟨j + 1,⟨by omega,hj2⟩,by omega,kle rfl,(by refine ⟨rfl,rfl,rfl,rfl,rfl,rfl,37,rfl,?_,?_⟩ <;> repeat' (first|exact trivial|exact rfl|exact wkr rfl|exact wko rfl|exact Nat.zero_le _|exact ⟨_,rfl,WkV.int w22⟩|exact ⟨_,rfl,WkV.eq f2⟩|exact qa3 _ _ (by decide)|exact qak lU|exact qak lN2|exact qak lM|exact qas (qal _) (by decide)|exact kle rfl|exact bdq|exact mxI rfl|exact mxS rfl|apply And.intro))⟩
     ·have hjE:j = t.length :=by omega
      refine qab (qa9 (show ¬ 2 * j < (zl (flN t)).length by omega)) ?_
      conv => whnf
      refine .inl ?_
      conv => whnf
      have hq:WkV (.lst (flat (zp (t.take j))) j (.ch 35)) (xqV (gT T i)) :=by rw [← et,hjE,List.take_length];exact qbq ht0 rfl
      repeat ((first|refine qah d1 ?_|refine qag d1 ?_|refine pkT d1 ?_|refine qaa d1 ?_|refine qah d2 ?_|refine qag d2 ?_|refine pkT d2 ?_|refine qaa d2 ?_|refine qah d4 ?_|refine qag d4 ?_|refine pkT d4 ?_|refine qaa d4 ?_|refine qah d5 ?_|refine qag d5 ?_|refine pkT d5 ?_|refine qaa d5 ?_|refine qam d5 ?_|refine qan d5 ?_|refine pkF d5 ?_|refine qab d5 ?_|refine qac hS (by kernel_rfl) ?_);conv => whnf)
      exact ⟨(i + 1,ptV T (i + 1),[.chain (i + 1) 1 45]),[22],⟨hi2,.inr ⟨Nat.succ_pos _,rfl,rfl⟩⟩,by show T.length - (i + 1) < T.length - i;omega,(by refine ⟨rfl,rfl,rfl,rfl,rfl,rfl,by decide,?_,?_,?_,by kernel_rfl,?_,?_⟩ <;> repeat' (first|exact trivial|exact rfl|exact ⟨_,rfl,RnV.wk (WkV.refl _) (Nat.zero_le _)⟩|exact ⟨_,rfl,RnV.wk (WkV.refl _) (kle rfl)⟩|exact TrIw.refl _ _ _ _ _|exact OWk.same _|exact OWk.loop _ _ _ _ _ _ _ (by repeat' (first|exact trivial|exact WkV.refl _|exact WkV.unk _|apply And.intro))|exact Nat.zero_le _|exact ⟨_,rfl,RnV.wk (WkV.int hi1) (Nat.zero_le _)⟩|exact ⟨_,rfl,qec hi2 hq⟩|exact qa3 _ _ (by decide)|exact qak lU|exact qak lN2|exact qak lM|exact qas (qal _) (by decide)|exact ⟨_,rfl,RnV.wk (WkV.refl _) (qak lU)⟩|exact ⟨_,rfl,RnV.wk (WkV.refl _) (qak lN2)⟩|exact kle rfl|exact bdq|exact mxI rfl|exact mxS rfl|apply And.intro))⟩
   ·have hiE:T.length = i :=by omega
    have eT:ptV T i = .lst (xqs T) T.length (.ch 22) :=by unfold ptV;rw [← hiE,List.take_length]
    have pT :=qdg (r :=(a,b,c,d + 1)) (c :=22) hNI (.inr eT) oR sW
    refine qab (qa9 (show ¬ i < n by omega)) ?_
    conv => whnf
    repeat ((first|refine qad hC (pT) ?_|refine qac hS (by kernel_rfl) ?_);conv => whnf)
    refine qa7 hC ?_
    conv => whnf
    refine qba hS (qb8 te s) ?_
    conv => whnf
end
end Go.Abs.Seat
