/-
  The text of a rule with trains, as the document writes it.
-/
import Derived.Test.YtnimgfkggbnjoaaGreatDoorVU14
namespace Go.Abs.Seat
noncomputable section
open Go Go.Abs Go.Proofs.Tryz
set_option maxRecDepth 100000
set_option maxHeartbeats 40000000
attribute [local irreducible] IntKind.wrap pEq
theorem qa2:Pure prog 41 [] (.lst [.str [],.str [97,110,121],.str [115,97,109,101],.str [111,116,104,101,114]] 4 .no) :=by
 refine qap hE rfl (by repeat' first|exact trivial|assumption|exact qal _|exact fun _ h => nomatch h|apply And.intro) (by repeat' first|exact trivial|assumption|exact qal _|exact fun _ h => nomatch h|apply And.intro) fun S q pc hS hq hC hE => ?_
 conv => whnf
 exact ⟨_,rfl,(WkV.own _ _ _).wk⟩
theorem qm1 (s:Nat):(qcb s).length ≤ 5 :=by
 unfold qcb
 split
 ·decide
 ·split <;> decide
theorem qoa {s:Nat} (h:1 ≤ s ∧ s ≤ 3):nth [.str [],.str [97,110,121],.str [115,97,109,101],.str [111,116,104,101,114]] (s * 1) = some (AV.str (qcb s)) :=by
 have:s = 1 ∨ s = 2 ∨ s = 3 :=by omega
 rcases this with rfl | rfl | rfl <;> rfl
def rwS (r:TrR) (V:List Nat) (T:List (List (Nat × Nat))):List AV :=stA (lnsT r V T)
theorem qcc (r:TrR) (V:List Nat) (T:List (List (Nat × Nat))):Lives noL (rwS r V T) :=qax _
theorem qjf (r:TrR) (V:List Nat) (T:List (List (Nat × Nat))) {i:Nat} (h:i < T.length):rwS r V (T.take i) ++ [.str (lnT (gT T i))] = rwS r V (T.take (i + 1)) :=by
 rw [qf6 T h]
 unfold rwS lnsT stA
 simp
theorem qk1 {r:TrR} {V:List Nat} {T:List (List (Nat × Nat))} {n:Nat} (h:T.length + 2 = n):qdq (rwS r V T) (n * 1) = true :=by
 have k :=qd3 (rwS r V T)
 unfold rwS at k ⊢
 rw [qex,qcf] at k
 rwa [Nat.mul_one,← h]
theorem qjv (r:TrR) (V:List Nat) (T:List (List (Nat × Nat))) {i:Nat} (h:i < T.length + 2):nth (rwS r V T) (i * 1) = some (.str (gB (lnsT r V T) i)) :=qa4 (by rw [qcf];exact h)
theorem qn0 (a b c s:Nat):(((((([114,117,108,101,32] ++ dec a) ++ [32]) ++ dec b) ++ [32]) ++ dec c) ++ [32]) ++ qcb s = lnR (a,b,c,s) :=by
 unfold lnR
 simp [lnW,qhc]
theorem lnT2 (t:List (Nat × Nat)) {j:Nat} (h:j < t.length):(((lnW qci (flN (t.take j)) ++ [32]) ++ dec (gq t j).1) ++ [32]) ++ dec (gq t j).2 = lnW qci (flN (t.take (j + 1))) :=by
 rw [qaz t h,qmq,qmi]
 simp [lnW]
theorem qvw {t:List (Nat × Nat)} {j:Nat} (h:j ≤ 450):(lnW qci (flN (t.take j))).length ≤ 4000 :=by
 have k :=qd9 (flN (t.take j)) qci
 rw [qaq,List.length_take] at k
 have e:qci.length = 5 :=rfl
 omega
theorem qvv {t:List (Nat × Nat)} (h:∀ n,n ∈ flN t → n < 1000) {j:Nat} (hj:j < t.length):(gq t j).1 < 1000 ∧ (gq t j).2 < 1000 :=by
 have k :=qbp t hj
 have l :=qaq t
 rw [← k.1,← k.2]
 exact ⟨qeu h (by omega),qeu h (by omega)⟩
theorem rdW {x:Int} {m:Nat} (hx:x = Int.ofNat m) (hm:m < 1000):Pure prog 40 [iv x] (.str (dec m)) :=by subst hx;exact qbo hm
theorem qs1 {a b c s:Nat} {V:List Nat} {T:List (List (Nat × Nat))} (o:okR (a,b,c,s) V T) (hw:ShW (a,b,c,s) V T):Pure prog 13 [.agg [nv a,nv b,nv c,nv s,nl (zl V)],.lst (xqs T) T.length .no] (.str (prtT (a,b,c,s) V T)) :=by
 have hs:1 ≤ s ∧ s ≤ 3 :=o.1.2
 have hs4:s < 4 :=by omega
 have gs :=qoa hs
 have q1 :=qbo (n :=a) o.1.1.1
 have q2 :=qbo (n :=b) o.1.1.2.1
 have q3 :=qbo (n :=c) o.1.1.2.2
 have g1 :=qa0 (kle rfl:([114,117,108,101,32]:List UInt8).length ≤ 5) (qbb a)
 have g2 :=qa0 g1 (Nat.le_refl ([32]:List UInt8).length)
 have g3 :=qa0 g2 (qbb b)
 have g4 :=qa0 g3 (Nat.le_refl ([32]:List UInt8).length)
 have g5 :=qa0 g4 (qbb c)
 have g6 :=qa0 g5 (Nat.le_refl ([32]:List UInt8).length)
 have g7 :=qa0 g6 (qm1 s)
 have lV :=qa5 (zl V)
 have lT :=qcw T
 have hV9 :=hw.hV
 have hT9 :=hw.hT
 have sW :=hw.le
 refine qap hE rfl (by repeat' first|exact trivial|assumption|exact qal _|exact fun _ h => nomatch h|apply And.intro) (by repeat' first|exact trivial|assumption|exact qal _|exact fun _ h => nomatch h|apply And.intro) fun S q pc hS hq hC hE => ?_
 conv => whnf
 repeat ((first|refine qaf (nthP gs) ?_|refine qah (qai hs4) ?_|refine qag (qai hs4) ?_|refine pkT (qai hs4) ?_|refine qaa (qai hs4) ?_|refine qah (qaj (milB g1 rfl)) ?_|refine qag (qaj (milB g1 rfl)) ?_|refine pkT (qaj (milB g1 rfl)) ?_|refine qaa (qaj (milB g1 rfl)) ?_|refine qam (qaj (milB g1 rfl)) ?_|refine qan (qaj (milB g1 rfl)) ?_|refine pkF (qaj (milB g1 rfl)) ?_|refine qab (qaj (milB g1 rfl)) ?_|refine qah (qaj (milB g2 rfl)) ?_|refine qag (qaj (milB g2 rfl)) ?_|refine pkT (qaj (milB g2 rfl)) ?_|refine qaa (qaj (milB g2 rfl)) ?_|refine qam (qaj (milB g2 rfl)) ?_|refine qan (qaj (milB g2 rfl)) ?_|refine pkF (qaj (milB g2 rfl)) ?_|refine qab (qaj (milB g2 rfl)) ?_|refine qah (qaj (milB g3 rfl)) ?_|refine qag (qaj (milB g3 rfl)) ?_|refine pkT (qaj (milB g3 rfl)) ?_|refine qaa (qaj (milB g3 rfl)) ?_|refine qam (qaj (milB g3 rfl)) ?_|refine qan (qaj (milB g3 rfl)) ?_|refine pkF (qaj (milB g3 rfl)) ?_|refine qab (qaj (milB g3 rfl)) ?_|refine qah (qaj (milB g4 rfl)) ?_|refine qag (qaj (milB g4 rfl)) ?_|refine pkT (qaj (milB g4 rfl)) ?_|refine qaa (qaj (milB g4 rfl)) ?_|refine qam (qaj (milB g4 rfl)) ?_|refine qan (qaj (milB g4 rfl)) ?_|refine pkF (qaj (milB g4 rfl)) ?_|refine qab (qaj (milB g4 rfl)) ?_|refine qah (qaj (milB g5 rfl)) ?_|refine qag (qaj (milB g5 rfl)) ?_|refine pkT (qaj (milB g5 rfl)) ?_|refine qaa (qaj (milB g5 rfl)) ?_|refine qam (qaj (milB g5 rfl)) ?_|refine qan (qaj (milB g5 rfl)) ?_|refine pkF (qaj (milB g5 rfl)) ?_|refine qab (qaj (milB g5 rfl)) ?_|refine qah (qaj (milB g6 rfl)) ?_|refine qag (qaj (milB g6 rfl)) ?_|refine pkT (qaj (milB g6 rfl)) ?_|refine qaa (qaj (milB g6 rfl)) ?_|refine qam (qaj (milB g6 rfl)) ?_|refine qan (qaj (milB g6 rfl)) ?_|refine pkF (qaj (milB g6 rfl)) ?_|refine qab (qaj (milB g6 rfl)) ?_|refine qah (qaj (milB g7 rfl)) ?_|refine qag (qaj (milB g7 rfl)) ?_|refine pkT (qaj (milB g7 rfl)) ?_|refine qaa (qaj (milB g7 rfl)) ?_|refine qam (qaj (milB g7 rfl)) ?_|refine qan (qaj (milB g7 rfl)) ?_|refine pkF (qaj (milB g7 rfl)) ?_|refine qab (qaj (milB g7 rfl)) ?_|refine qad hC (q1) ?_|refine qad hC (q2) ?_|refine qad hC (q3) ?_|refine qad hC (qa2) ?_|refine qac hS (by kernel_rfl) ?_);conv => whnf)
 refine qar hE hS (A :=Nat) [1,2,5] (fun i => [(6,.str (lnW qbv (V.take i))),(7,nv i)]) (fun _ => []) (fun _ => []) (fun i => i ≤ V.length) (fun i => V.length - i) 0 (kle rfl) rfl (by refine ⟨rfl,rfl,rfl,rfl,rfl,rfl,24,rfl,?_,?_⟩ <;> repeat' (first|exact trivial|exact rfl|exact wkr rfl|exact wko rfl|exact Nat.zero_le _|exact qak lT|exact qak lV|exact kle rfl|exact bdq|exact mxI rfl|exact mxS rfl|apply And.intro)) (Nat.zero_le _) ?_
 intro i hi K hK
 obtain rfl:K = 24 :=hK
 conv => whnf
 by_cases hi2:i < V.length
 ·have hi1:IntKind.i64.wrap (Int.ofNat i + 1) = Int.ofNat (i + 1) :=qav (m :=i + 1) (by omega)
  have hz:i < (zl V).length :=by rw [qbe];exact hi2
  have gr:nth (ivs (zl V)) (i * 1) = some (nv (gn V i)) :=(qaw (l :=zl V) (i :=i) hz).trans (by rw [qbg V hi2])
  have p1 :=qbo (qeu o.2.1 hi2)
  have f1 :=qa0 (qiu (w :=qbv) (L :=V) (kle rfl) (i :=i) (by omega)) (Nat.le_refl ([32]:List UInt8).length)
  have f2 :=qa0 f1 (qbb (gn V i))
  have e2:AV.str ((lnW qbv (V.take i) ++ [32]) ++ dec (gn V i)) = .str (lnW qbv (V.take (i + 1))) :=by rw [qg3 qbv V hi2,List.append_assoc]
  repeat ((first|refine qaf (nthP gr) ?_|refine qah (qae hz) ?_|refine qag (qae hz) ?_|refine pkT (qae hz) ?_|refine qaa (qae hz) ?_|refine qam (qae hz) ?_|refine qan (qae hz) ?_|refine pkF (qae hz) ?_|refine qab (qae hz) ?_|refine qah (qai hz) ?_|refine qag (qai hz) ?_|refine pkT (qai hz) ?_|refine qaa (qai hz) ?_|refine qah (qaj (milB f1 rfl)) ?_|refine qag (qaj (milB f1 rfl)) ?_|refine pkT (qaj (milB f1 rfl)) ?_|refine qaa (qaj (milB f1 rfl)) ?_|refine qam (qaj (milB f1 rfl)) ?_|refine qan (qaj (milB f1 rfl)) ?_|refine pkF (qaj (milB f1 rfl)) ?_|refine qab (qaj (milB f1 rfl)) ?_|refine qah (qaj (milB f2 rfl)) ?_|refine qag (qaj (milB f2 rfl)) ?_|refine pkT (qaj (milB f2 rfl)) ?_|refine qaa (qaj (milB f2 rfl)) ?_|refine qam (qaj (milB f2 rfl)) ?_|refine qan (qaj (milB f2 rfl)) ?_|refine pkF (qaj (milB f2 rfl)) ?_|refine qab (qaj (milB f2 rfl)) ?_|refine qad hC (p1) ?_|refine qac hS (by kernel_rfl) ?_);conv => whnf)
  exact ⟨i + 1,hi2,by omega,Nat.le_refl _,(by refine ⟨rfl,rfl,rfl,rfl,rfl,rfl,24,rfl,?_,?_⟩ <;> repeat' (first|exact trivial|exact rfl|exact wkr rfl|exact wko rfl|exact Nat.zero_le _|exact ⟨_,rfl,WkV.int hi1⟩|exact ⟨_,rfl,WkV.eq e2⟩|exact qak lT|exact qak lV|exact kle rfl|exact bdq|exact mxI rfl|exact mxS rfl|apply And.intro))⟩
 refine qab (qa9 (show ¬ i < (zl V).length by rw [qbe];exact hi2)) ?_
 conv => whnf
 refine .inl ?_
 conv => whnf
 have eV:AV.str (lnW qbv (V.take i)) = .str (lnW qbv V) :=by rw [show i = V.length by omega,List.take_length]
 repeat ((first|refine qac hS (by kernel_rfl) ?_);conv => whnf)
 have eR0:AV.lst [.str ((((((([114,117,108,101,32] ++ dec a) ++ [32]) ++ dec b) ++ [32]) ++ dec c) ++ [32]) ++ qcb s),.str (lnW qbv (V.take i))] 2 (.ch 24) = .lst (rwS (a,b,c,s) V (T.take 0)) (0 + 2) (.ch 24) :=by
  rw [qn0,AV.str.inj eV];rfl
 refine qar hE hS (A :=Nat) [1] (fun i => [(5,.lst (rwS (a,b,c,s) V (T.take i)) (i + 2) (.ch 24)),(8,nv i)]) (fun i => [(24,.chain (i + 2) 1 9)]) (fun _ => []) (fun i => i ≤ T.length) (fun i => T.length - i) 0 (kle rfl) rfl (by refine ⟨rfl,rfl,rfl,rfl,rfl,rfl,25,rfl,?_,?_⟩ <;> repeat' (first|exact trivial|exact rfl|exact wkr rfl|exact wko rfl|exact Nat.zero_le _|exact ⟨_,rfl,WkV.eq eR0⟩|exact qak lT|exact qak lV|exact qas (qcc _ _ _) (by decide)|exact kle rfl|exact bdq|exact mxI rfl|exact mxS rfl|apply And.intro)) (Nat.zero_le _) ?_
 intro i hi K hK
 obtain rfl:K = 25 :=hK
 conv => whnf
 by_cases hi2:i < T.length
 ·have hi1:IntKind.i64.wrap (Int.ofNat i + 1) = Int.ofNat (i + 1) :=qav (m :=i + 1) (by omega)
  have gx :=qfm T hi2
  have hm:gT T i ∈ T :=qgo hi2
  have ht9 :=hw.ht _ hm
  have hlt :=o.2.2 _ hm
  have d1:decide ((i + 2 + (0 + 1)) * 16 ≤ 140737488355328) = true :=decide_eq_true (by omega)
  have d2:decide (i + 2 + (0 + 1) ≤ 9223372036854775807) = true :=decide_eq_true (by omega)
  have d3 :=qk1 (r :=(a,b,c,s)) (V :=V) (T :=T.take i) (n :=i + 2) (by rw [List.length_take];omega)
  have d4:decide (i + 2 = i + 2) = true :=decide_eq_true rfl
  obtain ⟨t,et⟩ : ∃ t,t = gT T i :=⟨_,rfl⟩
  rw [← et] at gx ht9 hlt
  refine Or.elim (Classical.em (t = [])) (fun ht0 => ?_) fun ht0 => ?_
  ·have eX:xqV t = .nils :=if_pos ht0
   rw [eX] at gx
   have e2 :=qjf (a,b,c,s) V T hi2
   rw [← et,show lnT t = [116,114,97,105,110] by rw [ht0];rfl] at e2
   repeat ((first|refine qaf (nthP gx) ?_|refine qah (qae hi2) ?_|refine qag (qae hi2) ?_|refine pkT (qae hi2) ?_|refine qaa (qae hi2) ?_|refine qam (qae hi2) ?_|refine qan (qae hi2) ?_|refine pkF (qae hi2) ?_|refine qab (qae hi2) ?_|refine qah (qai hi2) ?_|refine qag (qai hi2) ?_|refine pkT (qai hi2) ?_|refine qaa (qai hi2) ?_|refine qac hS (by kernel_rfl) ?_);conv => whnf)
   refine qao hE hS ?_
   conv => whnf
   repeat ((first|refine qaf (nthP gx) ?_|refine qah (qae hi2) ?_|refine qag (qae hi2) ?_|refine pkT (qae hi2) ?_|refine qaa (qae hi2) ?_|refine qam (qae hi2) ?_|refine qan (qae hi2) ?_|refine pkF (qae hi2) ?_|refine qab (qae hi2) ?_|refine qah (qai hi2) ?_|refine qag (qai hi2) ?_|refine pkT (qai hi2) ?_|refine qaa (qai hi2) ?_|refine qah d1 ?_|refine qag d1 ?_|refine pkT d1 ?_|refine qaa d1 ?_|refine qah d2 ?_|refine qag d2 ?_|refine pkT d2 ?_|refine qaa d2 ?_|refine qah d3 ?_|refine qag d3 ?_|refine pkT d3 ?_|refine qaa d3 ?_|refine qam d3 ?_|refine qan d3 ?_|refine pkF d3 ?_|refine qab d3 ?_|refine qah d4 ?_|refine qag d4 ?_|refine pkT d4 ?_|refine qaa d4 ?_|refine qac hS (by kernel_rfl) ?_);conv => whnf)
   exact ⟨i + 1,hi2,by omega,kle rfl,(by refine ⟨rfl,rfl,rfl,rfl,rfl,rfl,25,rfl,?_,?_⟩ <;> repeat' (first|exact trivial|exact rfl|exact wkr rfl|exact wko rfl|exact Nat.zero_le _|exact ⟨_,rfl,WkV.int hi1⟩|exact ⟨_,rfl,WkV.eq (congrArg (fun z => AV.lst z (i + 2 + 1) (.ch 24)) e2)⟩|exact qak lT|exact qak lV|exact qas (qcc _ _ _) (by decide)|exact kle rfl|exact bdq|exact mxI rfl|exact mxS rfl|apply And.intro))⟩
  ·have eX:xqV t = pv (zp t) :=if_neg ht0
   rw [eX] at gx
   have lF :=qal (zp t)
   repeat ((first|refine qaf (nthP gx) ?_|refine qah (qae hi2) ?_|refine qag (qae hi2) ?_|refine pkT (qae hi2) ?_|refine qaa (qae hi2) ?_|refine qam (qae hi2) ?_|refine qan (qae hi2) ?_|refine pkF (qae hi2) ?_|refine qab (qae hi2) ?_|refine qah (qai hi2) ?_|refine qag (qai hi2) ?_|refine pkT (qai hi2) ?_|refine qaa (qai hi2) ?_|refine qac hS (by kernel_rfl) ?_);conv => whnf)
   refine qar hE hS (A :=Nat) [1,5,8] (fun j => [(9,.str (lnW qci (flN (t.take j)))),(10,nv j)]) (fun _ => []) (fun _ => []) (fun j => j ≤ t.length) (fun j => t.length - j) 0 (kle rfl) rfl (by refine ⟨rfl,rfl,rfl,rfl,rfl,rfl,25,rfl,?_,?_⟩ <;> repeat' (first|exact trivial|exact rfl|exact wkr rfl|exact wko rfl|exact Nat.zero_le _|exact qak lT|exact qak lV|exact qas (qcc _ _ _) (by decide)|exact kle rfl|exact bdq|exact mxI rfl|exact mxS rfl|apply And.intro)) (Nat.zero_le _) ?_
   intro j hj K hK
   obtain rfl:K = 25 :=hK
   conv => whnf
   by_cases hj2:j < t.length
   ·have hj1:IntKind.i64.wrap (Int.ofNat j + 1) = Int.ofNat (j + 1) :=qav (m :=j + 1) (by omega)
    have hjz:j < (zp t).length :=by rw [qdy];exact hj2
    have gf :=qjw (zp t) hjz
    have gz:gpr (zp t) j = (Int.ofNat (gq t j).1,Int.ofNat (gq t j).2) :=by simp [gpr,gq,zp,List.getD,hj2]
    rw [gz] at gf
    have hl :=qvv hlt hj2
    have p1 :=qbo hl.1
    have p2 :=qbo hl.2
    have f1 :=qa0 (qvw (t :=t) (j :=j) (by omega)) (Nat.le_refl ([32]:List UInt8).length)
    have f2 :=qa0 f1 (qbb (gq t j).1)
    have f3 :=qa0 f2 (Nat.le_refl ([32]:List UInt8).length)
    have f4 :=qa0 f3 (qbb (gq t j).2)
    have e3 :=congrArg AV.str (lnT2 t hj2)
    repeat ((first|refine qaf (nthP gx) ?_|refine qaf (nthP gf.1) ?_|refine qaf (nthP gf.2) ?_|refine qah (qae hi2) ?_|refine qag (qae hi2) ?_|refine pkT (qae hi2) ?_|refine qaa (qae hi2) ?_|refine qam (qae hi2) ?_|refine qan (qae hi2) ?_|refine pkF (qae hi2) ?_|refine qab (qae hi2) ?_|refine qah (qai hi2) ?_|refine qag (qai hi2) ?_|refine pkT (qai hi2) ?_|refine qaa (qai hi2) ?_|refine qah (qae hjz) ?_|refine qag (qae hjz) ?_|refine pkT (qae hjz) ?_|refine qaa (qae hjz) ?_|refine qam (qae hjz) ?_|refine qan (qae hjz) ?_|refine pkF (qae hjz) ?_|refine qab (qae hjz) ?_|refine qah (qai hjz) ?_|refine qag (qai hjz) ?_|refine pkT (qai hjz) ?_|refine qaa (qai hjz) ?_|refine qah (qaj (milB f1 rfl)) ?_|refine qag (qaj (milB f1 rfl)) ?_|refine pkT (qaj (milB f1 rfl)) ?_|refine qaa (qaj (milB f1 rfl)) ?_|refine qam (qaj (milB f1 rfl)) ?_|refine qan (qaj (milB f1 rfl)) ?_|refine pkF (qaj (milB f1 rfl)) ?_|refine qab (qaj (milB f1 rfl)) ?_|refine qah (qaj (milB f2 rfl)) ?_|refine qag (qaj (milB f2 rfl)) ?_|refine pkT (qaj (milB f2 rfl)) ?_|refine qaa (qaj (milB f2 rfl)) ?_|refine qam (qaj (milB f2 rfl)) ?_|refine qan (qaj (milB f2 rfl)) ?_|refine pkF (qaj (milB f2 rfl)) ?_|refine qab (qaj (milB f2 rfl)) ?_|refine qah (qaj (milB f3 rfl)) ?_|refine qag (qaj (milB f3 rfl)) ?_|refine pkT (qaj (milB f3 rfl)) ?_|refine qaa (qaj (milB f3 rfl)) ?_|refine qam (qaj (milB f3 rfl)) ?_|refine qan (qaj (milB f3 rfl)) ?_|refine pkF (qaj (milB f3 rfl)) ?_|refine qab (qaj (milB f3 rfl)) ?_|refine qah (qaj (milB f4 rfl)) ?_|refine qag (qaj (milB f4 rfl)) ?_|refine pkT (qaj (milB f4 rfl)) ?_|refine qaa (qaj (milB f4 rfl)) ?_|refine qam (qaj (milB f4 rfl)) ?_|refine qan (qaj (milB f4 rfl)) ?_|refine pkF (qaj (milB f4 rfl)) ?_|refine qab (qaj (milB f4 rfl)) ?_|refine qad hC (p1) ?_|refine qad hC (p2) ?_|refine qac hS (by kernel_rfl) ?_);conv => whnf)
    exact ⟨j + 1,hj2,by omega,kle rfl,(by refine ⟨rfl,rfl,rfl,rfl,rfl,rfl,25,rfl,?_,?_⟩ <;> repeat' (first|exact trivial|exact rfl|exact wkr rfl|exact wko rfl|exact Nat.zero_le _|exact ⟨_,rfl,WkV.int hj1⟩|exact ⟨_,rfl,WkV.eq e3⟩|exact qak lT|exact qak lV|exact qas (qcc _ _ _) (by decide)|exact kle rfl|exact bdq|exact mxI rfl|exact mxS rfl|apply And.intro))⟩
   ·have hjE:j = t.length :=by omega
    have e2 :=qjf (a,b,c,s) V T hi2
    rw [← et,show lnT t = lnW qci (flN (t.take j)) by rw [hjE,List.take_length];rfl] at e2
    have hjz:¬ j < (zp t).length :=by rw [qdy];exact hj2
    have hjf:decide (Int.ofNat j < Int.ofNat (zp t).length) = false :=qa9 hjz
    repeat ((first|refine qaf (nthP gx) ?_|refine qah (qae hi2) ?_|refine qag (qae hi2) ?_|refine pkT (qae hi2) ?_|refine qaa (qae hi2) ?_|refine qam (qae hi2) ?_|refine qan (qae hi2) ?_|refine pkF (qae hi2) ?_|refine qab (qae hi2) ?_|refine qah (qai hi2) ?_|refine qag (qai hi2) ?_|refine pkT (qai hi2) ?_|refine qaa (qai hi2) ?_|refine qam hjf ?_|refine qan hjf ?_|refine pkF hjf ?_|refine qab hjf ?_|refine qac hS (by kernel_rfl) ?_);conv => whnf)
    refine .inl ?_
    conv => whnf
    repeat ((first|refine qah d1 ?_|refine qag d1 ?_|refine pkT d1 ?_|refine qaa d1 ?_|refine qah d2 ?_|refine qag d2 ?_|refine pkT d2 ?_|refine qaa d2 ?_|refine qah d3 ?_|refine qag d3 ?_|refine pkT d3 ?_|refine qaa d3 ?_|refine qam d3 ?_|refine qan d3 ?_|refine pkF d3 ?_|refine qab d3 ?_|refine qah d4 ?_|refine qag d4 ?_|refine pkT d4 ?_|refine qaa d4 ?_|refine qac hS (by kernel_rfl) ?_);conv => whnf)
    exact ⟨i + 1,hi2,by omega,kle rfl,(by refine ⟨rfl,rfl,rfl,rfl,rfl,rfl,25,rfl,?_,?_⟩ <;> repeat' (first|exact trivial|exact rfl|exact wkr rfl|exact wko rfl|exact Nat.zero_le _|exact ⟨_,rfl,WkV.int hi1⟩|exact ⟨_,rfl,WkV.eq (congrArg (fun z => AV.lst z (i + 2 + 1) (.ch 24)) e2)⟩|exact qak lT|exact qak lV|exact qas (qcc _ _ _) (by decide)|exact kle rfl|exact bdq|exact mxI rfl|exact mxS rfl|apply And.intro))⟩
 refine qab (qa9 hi2) ?_
 conv => whnf
 refine .inl ?_
 conv => whnf
 have eR:AV.lst (rwS (a,b,c,s) V (T.take i)) (i + 2) (.ch 24) = .lst (rwS (a,b,c,s) V T) (T.length + 2) (.ch 24) :=by rw [show i = T.length by omega,List.take_length]
 repeat ((first|refine qac hS (by kernel_rfl) ?_);conv => whnf)
 refine qar hE hS (A :=Nat) [] (fun i => [(5,.lst (rwS (a,b,c,s) V T) (T.length + 2) (.ch 24)),(11,.str (ouB (lnsT (a,b,c,s) V T) i)),(12,nv (ckN (lnsT (a,b,c,s) V T) i)),(13,nv i)]) (fun _ => []) (fun _ => []) (fun i => i ≤ T.length + 2) (fun i => T.length + 2 - i) 0 (kle rfl) rfl (by refine ⟨rfl,rfl,rfl,rfl,rfl,rfl,25,rfl,?_,?_⟩ <;> repeat' (first|exact trivial|exact rfl|exact wkr rfl|exact wko rfl|exact Nat.zero_le _|exact ⟨_,rfl,WkV.eq eR⟩|exact qak lT|exact qak lV|exact qas (qcc _ _ _) (by decide)|exact kle rfl|exact bdq|exact mxI rfl|exact mxS rfl|apply And.intro)) (Nat.zero_le _) ?_
 intro i hi K hK
 obtain rfl:K = 25 :=hK
 conv => whnf
 by_cases hi2:i < T.length + 2
 ·have hi1:IntKind.i64.wrap (Int.ofNat i + 1) = Int.ofNat (i + 1) :=qav (m :=i + 1) (by omega)
  have hs :=sW i
  have gr :=qjv (a,b,c,s) V T hi2
  have hw :=qdt sW i (by omega)
  repeat ((first|refine qaf (nthP gr) ?_|refine qah (qae hi2) ?_|refine qag (qae hi2) ?_|refine pkT (qae hi2) ?_|refine qaa (qae hi2) ?_|refine qam (qae hi2) ?_|refine qan (qae hi2) ?_|refine pkF (qae hi2) ?_|refine qab (qae hi2) ?_|refine qah (qai hi2) ?_|refine qag (qai hi2) ?_|refine pkT (qai hi2) ?_|refine qaa (qai hi2) ?_|refine qac hS (by kernel_rfl) ?_);conv => whnf)
  refine qar hE hS (A :=Nat) [5,11,13] (fun k => [(12,nv (ckN (lnsT (a,b,c,s) V T) i + ckL (gB (lnsT (a,b,c,s) V T) i) i k)),(14,nv k)]) (fun _ => []) (fun _ => []) (fun k => k ≤ (gB (lnsT (a,b,c,s) V T) i).length) (fun k => (gB (lnsT (a,b,c,s) V T) i).length - k) 0 (kle rfl) rfl (by refine ⟨rfl,rfl,rfl,rfl,rfl,rfl,25,rfl,?_,?_⟩ <;> repeat' (first|exact trivial|exact rfl|exact wkr rfl|exact wko rfl|exact Nat.zero_le _|exact qak lT|exact qak lV|exact qas (qcc _ _ _) (by decide)|exact kle rfl|exact bdq|exact mxI rfl|exact mxS rfl|apply And.intro)) (Nat.zero_le _) ?_
  intro k hk K hK
  obtain rfl:K = 25 :=hK
  conv => whnf
  by_cases hk2:k < (gB (lnsT (a,b,c,s) V T) i).length
  ·have hk1:IntKind.i64.wrap (Int.ofNat k + 1) = Int.ofNat (k + 1) :=qav (m :=k + 1) (by omega)
   have hc :=qdu (s :=gB (lnsT (a,b,c,s) V T) i) (i :=i) (k :=k) (by omega) (by omega)
   have hb:((gB (lnsT (a,b,c,s) V T) i).getD k 0).toNat ≤ 256 :=Nat.le_of_lt (UInt8.toNat_lt _)
   have ew:_ = Int.ofNat (ckN (lnsT (a,b,c,s) V T) i + ckL (gB (lnsT (a,b,c,s) V T) i) i (k + 1)) :=(qdf (c :=ckN (lnsT (a,b,c,s) V T) i + ckL (gB (lnsT (a,b,c,s) V T) i) i k) (by omega) hb (show k ≤ 4000 by omega) (show i < 1000 by omega)).trans (by rw [ckL,Nat.add_assoc])
   repeat ((first|refine qaf (nthP gr) ?_|refine qaf (qch hk2) ?_|refine qah (qae hi2) ?_|refine qag (qae hi2) ?_|refine pkT (qae hi2) ?_|refine qaa (qae hi2) ?_|refine qam (qae hi2) ?_|refine qan (qae hi2) ?_|refine pkF (qae hi2) ?_|refine qab (qae hi2) ?_|refine qah (qai hi2) ?_|refine qag (qai hi2) ?_|refine pkT (qai hi2) ?_|refine qaa (qai hi2) ?_|refine qah (qae hk2) ?_|refine qag (qae hk2) ?_|refine pkT (qae hk2) ?_|refine qaa (qae hk2) ?_|refine qam (qae hk2) ?_|refine qan (qae hk2) ?_|refine pkF (qae hk2) ?_|refine qab (qae hk2) ?_|refine qah (qai hk2) ?_|refine qag (qai hk2) ?_|refine pkT (qai hk2) ?_|refine qaa (qai hk2) ?_|refine qac hS (by kernel_rfl) ?_);conv => whnf)
   exact ⟨k + 1,hk2,by omega,Nat.le_refl _,(by refine ⟨rfl,rfl,rfl,rfl,rfl,rfl,25,rfl,?_,?_⟩ <;> repeat' (first|exact trivial|exact rfl|exact wkr rfl|exact wko rfl|exact Nat.zero_le _|exact ⟨_,rfl,WkV.int hk1⟩|exact ⟨_,rfl,WkV.int ew⟩|exact qak lT|exact qak lV|exact qas (qcc _ _ _) (by decide)|exact kle rfl|exact bdq|exact mxI rfl|exact mxS rfl|apply And.intro))⟩
  ·have hkE:k = (gB (lnsT (a,b,c,s) V T) i).length :=by omega
   have o1 :=qb6 sW i
   have o2 :=qa0 o1 hs
   have o3 :=qa0 o2 (Nat.le_refl ([10]:List UInt8).length)
   have o4:(ouB (lnsT (a,b,c,s) V T) i ++ gB (lnsT (a,b,c,s) V T) i).length ≤ 100000000 :=by omega
   have o5:((ouB (lnsT (a,b,c,s) V T) i ++ gB (lnsT (a,b,c,s) V T) i) ++ [10]).length ≤ 100000000 :=by simp only [List.length_cons,List.length_nil] at o3;omega
   have eO:AV.str ((ouB (lnsT (a,b,c,s) V T) i ++ gB (lnsT (a,b,c,s) V T) i) ++ [10]) = .str (ouB (lnsT (a,b,c,s) V T) (i + 1)) :=by rw [ouB,List.append_assoc]
   have hkf:decide (Int.ofNat k < Int.ofNat (gB (lnsT (a,b,c,s) V T) i).length) = false :=qa9 hk2
   repeat ((first|refine qaf (nthP gr) ?_|refine qah (qae hi2) ?_|refine qag (qae hi2) ?_|refine pkT (qae hi2) ?_|refine qaa (qae hi2) ?_|refine qam (qae hi2) ?_|refine qan (qae hi2) ?_|refine pkF (qae hi2) ?_|refine qab (qae hi2) ?_|refine qah (qai hi2) ?_|refine qag (qai hi2) ?_|refine pkT (qai hi2) ?_|refine qaa (qai hi2) ?_|refine qam hkf ?_|refine qan hkf ?_|refine pkF hkf ?_|refine qab hkf ?_|refine qac hS (by kernel_rfl) ?_);conv => whnf)
   refine .inl ?_
   conv => whnf
   repeat ((first|refine qaf (nthP gr) ?_|refine qah (qai hi2) ?_|refine qag (qai hi2) ?_|refine pkT (qai hi2) ?_|refine qaa (qai hi2) ?_|refine qah (qaj o4) ?_|refine qag (qaj o4) ?_|refine pkT (qaj o4) ?_|refine qaa (qaj o4) ?_|refine qam (qaj o4) ?_|refine qan (qaj o4) ?_|refine pkF (qaj o4) ?_|refine qab (qaj o4) ?_|refine qah (qaj o5) ?_|refine qag (qaj o5) ?_|refine pkT (qaj o5) ?_|refine qaa (qaj o5) ?_|refine qam (qaj o5) ?_|refine qan (qaj o5) ?_|refine pkF (qaj o5) ?_|refine qab (qaj o5) ?_|refine qac hS (by kernel_rfl) ?_);conv => whnf)
   exact ⟨i + 1,hi2,by omega,Nat.le_refl _,(by refine ⟨rfl,rfl,rfl,rfl,rfl,rfl,25,rfl,?_,?_⟩ <;> repeat' (first|exact trivial|exact rfl|exact wkr rfl|exact wko rfl|exact Nat.zero_le _|exact ⟨_,rfl,WkV.int hi1⟩|exact ⟨_,rfl,WkV.eq eO⟩|exact ⟨_,rfl,WkV.int (show Int.ofNat (ckN (lnsT (a,b,c,s) V T) i + ckL (gB (lnsT (a,b,c,s) V T) i) i k) = Int.ofNat (ckN (lnsT (a,b,c,s) V T) (i + 1)) by rw [ckN,hkE])⟩|exact qak lT|exact qak lV|exact qas (qcc _ _ _) (by decide)|exact kle rfl|exact bdq|exact mxI rfl|exact mxS rfl|apply And.intro))⟩
 have hiE2:i = (lnsT (a,b,c,s) V T).length :=by rw [qcf];omega
 have t :=qd6 (ckN (lnsT (a,b,c,s) V T) i)
 have hm :=Nat.mod_lt (ckN (lnsT (a,b,c,s) V T) i) (show 0 < 109 by decide)
 have p1 :=rdW t.1 (by omega)
 have p2 :=rdW t.2.1 (by omega)
 have p3 :=rdW t.2.2 (by omega)
 have o1 :=qb6 sW i
 have o2:(ouB (lnsT (a,b,c,s) V T) i ++ [101,110,100,32]).length ≤ 5000000 :=by rw [List.length_append];show _ + 4 ≤ _;omega
 have o3 :=qa0 o2 (qbb (ckN (lnsT (a,b,c,s) V T) i % 109 / 100))
 have o4 :=qa0 o3 (qbb (ckN (lnsT (a,b,c,s) V T) i % 109 / 10 % 10))
 have o5 :=qa0 o4 (qbb (ckN (lnsT (a,b,c,s) V T) i % 109 % 10))
 have o6 :=qa0 o5 (Nat.le_refl ([10]:List UInt8).length)
 refine qab (qa9 hi2) ?_
 conv => whnf
 refine .inl ?_
 conv => whnf
 repeat ((first|refine qah (qaj (milB o2 rfl)) ?_|refine qag (qaj (milB o2 rfl)) ?_|refine pkT (qaj (milB o2 rfl)) ?_|refine qaa (qaj (milB o2 rfl)) ?_|refine qam (qaj (milB o2 rfl)) ?_|refine qan (qaj (milB o2 rfl)) ?_|refine pkF (qaj (milB o2 rfl)) ?_|refine qab (qaj (milB o2 rfl)) ?_|refine qah (qaj (milB o3 rfl)) ?_|refine qag (qaj (milB o3 rfl)) ?_|refine pkT (qaj (milB o3 rfl)) ?_|refine qaa (qaj (milB o3 rfl)) ?_|refine qam (qaj (milB o3 rfl)) ?_|refine qan (qaj (milB o3 rfl)) ?_|refine pkF (qaj (milB o3 rfl)) ?_|refine qab (qaj (milB o3 rfl)) ?_|refine qah (qaj (milB o4 rfl)) ?_|refine qag (qaj (milB o4 rfl)) ?_|refine pkT (qaj (milB o4 rfl)) ?_|refine qaa (qaj (milB o4 rfl)) ?_|refine qam (qaj (milB o4 rfl)) ?_|refine qan (qaj (milB o4 rfl)) ?_|refine pkF (qaj (milB o4 rfl)) ?_|refine qab (qaj (milB o4 rfl)) ?_|refine qah (qaj (milB o5 rfl)) ?_|refine qag (qaj (milB o5 rfl)) ?_|refine pkT (qaj (milB o5 rfl)) ?_|refine qaa (qaj (milB o5 rfl)) ?_|refine qam (qaj (milB o5 rfl)) ?_|refine qan (qaj (milB o5 rfl)) ?_|refine pkF (qaj (milB o5 rfl)) ?_|refine qab (qaj (milB o5 rfl)) ?_|refine qah (qaj (milB o6 rfl)) ?_|refine qag (qaj (milB o6 rfl)) ?_|refine pkT (qaj (milB o6 rfl)) ?_|refine qaa (qaj (milB o6 rfl)) ?_|refine qam (qaj (milB o6 rfl)) ?_|refine qan (qaj (milB o6 rfl)) ?_|refine pkF (qaj (milB o6 rfl)) ?_|refine qab (qaj (milB o6 rfl)) ?_|refine qad hC (p1) ?_|refine qad hC (p2) ?_|refine qad hC (p3) ?_|refine qac hS (by kernel_rfl) ?_);conv => whnf)
 exact ⟨_,rfl,wk_s (by unfold prtT finB;rw [← hiE2])⟩
theorem qs0 {a b c s:Nat} {V:List Nat} {T:List (List (Nat × Nat))} (hT0:T = []) (o:okR (a,b,c,s) V T) (hw:ShW (a,b,c,s) V T):Pure prog 13 [.agg [nv a,nv b,nv c,nv s,nl (zl V)],.nils] (.str (prtT (a,b,c,s) V T)) :=by
 have hs:1 ≤ s ∧ s ≤ 3 :=o.1.2
 have hs4:s < 4 :=by omega
 have gs :=qoa hs
 have q1 :=qbo (n :=a) o.1.1.1
 have q2 :=qbo (n :=b) o.1.1.2.1
 have q3 :=qbo (n :=c) o.1.1.2.2
 have g1 :=qa0 (kle rfl:([114,117,108,101,32]:List UInt8).length ≤ 5) (qbb a)
 have g2 :=qa0 g1 (Nat.le_refl ([32]:List UInt8).length)
 have g3 :=qa0 g2 (qbb b)
 have g4 :=qa0 g3 (Nat.le_refl ([32]:List UInt8).length)
 have g5 :=qa0 g4 (qbb c)
 have g6 :=qa0 g5 (Nat.le_refl ([32]:List UInt8).length)
 have g7 :=qa0 g6 (qm1 s)
 have lV :=qa5 (zl V)
 have lT :=qcw T
 have hV9 :=hw.hV
 have hT9 :=hw.hT
 have sW :=hw.le
 refine qap hE rfl (by repeat' first|exact trivial|assumption|exact qal _|exact fun _ h => nomatch h|apply And.intro) (by repeat' first|exact trivial|assumption|exact qal _|exact fun _ h => nomatch h|apply And.intro) fun S q pc hS hq hC hE => ?_
 conv => whnf
 repeat ((first|refine qaf (nthP gs) ?_|refine qah (qai hs4) ?_|refine qag (qai hs4) ?_|refine pkT (qai hs4) ?_|refine qaa (qai hs4) ?_|refine qah (qaj (milB g1 rfl)) ?_|refine qag (qaj (milB g1 rfl)) ?_|refine pkT (qaj (milB g1 rfl)) ?_|refine qaa (qaj (milB g1 rfl)) ?_|refine qam (qaj (milB g1 rfl)) ?_|refine qan (qaj (milB g1 rfl)) ?_|refine pkF (qaj (milB g1 rfl)) ?_|refine qab (qaj (milB g1 rfl)) ?_|refine qah (qaj (milB g2 rfl)) ?_|refine qag (qaj (milB g2 rfl)) ?_|refine pkT (qaj (milB g2 rfl)) ?_|refine qaa (qaj (milB g2 rfl)) ?_|refine qam (qaj (milB g2 rfl)) ?_|refine qan (qaj (milB g2 rfl)) ?_|refine pkF (qaj (milB g2 rfl)) ?_|refine qab (qaj (milB g2 rfl)) ?_|refine qah (qaj (milB g3 rfl)) ?_|refine qag (qaj (milB g3 rfl)) ?_|refine pkT (qaj (milB g3 rfl)) ?_|refine qaa (qaj (milB g3 rfl)) ?_|refine qam (qaj (milB g3 rfl)) ?_|refine qan (qaj (milB g3 rfl)) ?_|refine pkF (qaj (milB g3 rfl)) ?_|refine qab (qaj (milB g3 rfl)) ?_|refine qah (qaj (milB g4 rfl)) ?_|refine qag (qaj (milB g4 rfl)) ?_|refine pkT (qaj (milB g4 rfl)) ?_|refine qaa (qaj (milB g4 rfl)) ?_|refine qam (qaj (milB g4 rfl)) ?_|refine qan (qaj (milB g4 rfl)) ?_|refine pkF (qaj (milB g4 rfl)) ?_|refine qab (qaj (milB g4 rfl)) ?_|refine qah (qaj (milB g5 rfl)) ?_|refine qag (qaj (milB g5 rfl)) ?_|refine pkT (qaj (milB g5 rfl)) ?_|refine qaa (qaj (milB g5 rfl)) ?_|refine qam (qaj (milB g5 rfl)) ?_|refine qan (qaj (milB g5 rfl)) ?_|refine pkF (qaj (milB g5 rfl)) ?_|refine qab (qaj (milB g5 rfl)) ?_|refine qah (qaj (milB g6 rfl)) ?_|refine qag (qaj (milB g6 rfl)) ?_|refine pkT (qaj (milB g6 rfl)) ?_|refine qaa (qaj (milB g6 rfl)) ?_|refine qam (qaj (milB g6 rfl)) ?_|refine qan (qaj (milB g6 rfl)) ?_|refine pkF (qaj (milB g6 rfl)) ?_|refine qab (qaj (milB g6 rfl)) ?_|refine qah (qaj (milB g7 rfl)) ?_|refine qag (qaj (milB g7 rfl)) ?_|refine pkT (qaj (milB g7 rfl)) ?_|refine qaa (qaj (milB g7 rfl)) ?_|refine qam (qaj (milB g7 rfl)) ?_|refine qan (qaj (milB g7 rfl)) ?_|refine pkF (qaj (milB g7 rfl)) ?_|refine qab (qaj (milB g7 rfl)) ?_|refine qad hC (q1) ?_|refine qad hC (q2) ?_|refine qad hC (q3) ?_|refine qad hC (qa2) ?_|refine qac hS (by kernel_rfl) ?_);conv => whnf)
 refine qar hE hS (A :=Nat) [1,2,5] (fun i => [(6,.str (lnW qbv (V.take i))),(7,nv i)]) (fun _ => []) (fun _ => []) (fun i => i ≤ V.length) (fun i => V.length - i) 0 (kle rfl) rfl (by refine ⟨rfl,rfl,rfl,rfl,rfl,rfl,24,rfl,?_,?_⟩ <;> repeat' (first|exact trivial|exact rfl|exact wkr rfl|exact wko rfl|exact Nat.zero_le _|exact qak lT|exact qak lV|exact kle rfl|exact bdq|exact mxI rfl|exact mxS rfl|apply And.intro)) (Nat.zero_le _) ?_
 intro i hi K hK
 obtain rfl:K = 24 :=hK
 conv => whnf
 by_cases hi2:i < V.length
 ·have hi1:IntKind.i64.wrap (Int.ofNat i + 1) = Int.ofNat (i + 1) :=qav (m :=i + 1) (by omega)
  have hz:i < (zl V).length :=by rw [qbe];exact hi2
  have gr:nth (ivs (zl V)) (i * 1) = some (nv (gn V i)) :=(qaw (l :=zl V) (i :=i) hz).trans (by rw [qbg V hi2])
  have p1 :=qbo (qeu o.2.1 hi2)
  have f1 :=qa0 (qiu (w :=qbv) (L :=V) (kle rfl) (i :=i) (by omega)) (Nat.le_refl ([32]:List UInt8).length)
  have f2 :=qa0 f1 (qbb (gn V i))
  have e2:AV.str ((lnW qbv (V.take i) ++ [32]) ++ dec (gn V i)) = .str (lnW qbv (V.take (i + 1))) :=by rw [qg3 qbv V hi2,List.append_assoc]
  repeat ((first|refine qaf (nthP gr) ?_|refine qah (qae hz) ?_|refine qag (qae hz) ?_|refine pkT (qae hz) ?_|refine qaa (qae hz) ?_|refine qam (qae hz) ?_|refine qan (qae hz) ?_|refine pkF (qae hz) ?_|refine qab (qae hz) ?_|refine qah (qai hz) ?_|refine qag (qai hz) ?_|refine pkT (qai hz) ?_|refine qaa (qai hz) ?_|refine qah (qaj (milB f1 rfl)) ?_|refine qag (qaj (milB f1 rfl)) ?_|refine pkT (qaj (milB f1 rfl)) ?_|refine qaa (qaj (milB f1 rfl)) ?_|refine qam (qaj (milB f1 rfl)) ?_|refine qan (qaj (milB f1 rfl)) ?_|refine pkF (qaj (milB f1 rfl)) ?_|refine qab (qaj (milB f1 rfl)) ?_|refine qah (qaj (milB f2 rfl)) ?_|refine qag (qaj (milB f2 rfl)) ?_|refine pkT (qaj (milB f2 rfl)) ?_|refine qaa (qaj (milB f2 rfl)) ?_|refine qam (qaj (milB f2 rfl)) ?_|refine qan (qaj (milB f2 rfl)) ?_|refine pkF (qaj (milB f2 rfl)) ?_|refine qab (qaj (milB f2 rfl)) ?_|refine qad hC (p1) ?_|refine qac hS (by kernel_rfl) ?_);conv => whnf)
  exact ⟨i + 1,hi2,by omega,Nat.le_refl _,(by refine ⟨rfl,rfl,rfl,rfl,rfl,rfl,24,rfl,?_,?_⟩ <;> repeat' (first|exact trivial|exact rfl|exact wkr rfl|exact wko rfl|exact Nat.zero_le _|exact ⟨_,rfl,WkV.int hi1⟩|exact ⟨_,rfl,WkV.eq e2⟩|exact qak lT|exact qak lV|exact kle rfl|exact bdq|exact mxI rfl|exact mxS rfl|apply And.intro))⟩
 refine qab (qa9 (show ¬ i < (zl V).length by rw [qbe];exact hi2)) ?_
 conv => whnf
 refine .inl ?_
 conv => whnf
 have eV:AV.str (lnW qbv (V.take i)) = .str (lnW qbv V) :=by rw [show i = V.length by omega,List.take_length]
 repeat ((first|refine qac hS (by kernel_rfl) ?_);conv => whnf)
 have eR:AV.lst [.str ((((((([114,117,108,101,32] ++ dec a) ++ [32]) ++ dec b) ++ [32]) ++ dec c) ++ [32]) ++ qcb s),.str (lnW qbv (V.take i))] 2 (.ch 24) = .lst (rwS (a,b,c,s) V T) (T.length + 2) (.ch 24) :=by
  rw [qn0,AV.str.inj eV,hT0];rfl
 refine qao hE hS ?_
 conv => whnf
 repeat ((first|refine qac hS (by kernel_rfl) ?_);conv => whnf)
 refine qar hE hS (A :=Nat) [] (fun i => [(5,.lst (rwS (a,b,c,s) V T) (T.length + 2) (.ch 24)),(11,.str (ouB (lnsT (a,b,c,s) V T) i)),(12,nv (ckN (lnsT (a,b,c,s) V T) i)),(13,nv i)]) (fun _ => []) (fun _ => []) (fun i => i ≤ T.length + 2) (fun i => T.length + 2 - i) 0 (kle rfl) rfl (by refine ⟨rfl,rfl,rfl,rfl,rfl,rfl,25,rfl,?_,?_⟩ <;> repeat' (first|exact trivial|exact rfl|exact wkr rfl|exact wko rfl|exact Nat.zero_le _|exact ⟨_,rfl,WkV.eq eR⟩|exact qak lT|exact qak lV|exact qas (qcc _ _ _) (by decide)|exact kle rfl|exact bdq|exact mxI rfl|exact mxS rfl|apply And.intro)) (Nat.zero_le _) ?_
 intro i hi K hK
 obtain rfl:K = 25 :=hK
 conv => whnf
 by_cases hi2:i < T.length + 2
 ·have hi1:IntKind.i64.wrap (Int.ofNat i + 1) = Int.ofNat (i + 1) :=qav (m :=i + 1) (by omega)
  have hs :=sW i
  have gr :=qjv (a,b,c,s) V T hi2
  have hw :=qdt sW i (by omega)
  repeat ((first|refine qaf (nthP gr) ?_|refine qah (qae hi2) ?_|refine qag (qae hi2) ?_|refine pkT (qae hi2) ?_|refine qaa (qae hi2) ?_|refine qam (qae hi2) ?_|refine qan (qae hi2) ?_|refine pkF (qae hi2) ?_|refine qab (qae hi2) ?_|refine qah (qai hi2) ?_|refine qag (qai hi2) ?_|refine pkT (qai hi2) ?_|refine qaa (qai hi2) ?_|refine qac hS (by kernel_rfl) ?_);conv => whnf)
  refine qar hE hS (A :=Nat) [5,11,13] (fun k => [(12,nv (ckN (lnsT (a,b,c,s) V T) i + ckL (gB (lnsT (a,b,c,s) V T) i) i k)),(14,nv k)]) (fun _ => []) (fun _ => []) (fun k => k ≤ (gB (lnsT (a,b,c,s) V T) i).length) (fun k => (gB (lnsT (a,b,c,s) V T) i).length - k) 0 (kle rfl) rfl (by refine ⟨rfl,rfl,rfl,rfl,rfl,rfl,25,rfl,?_,?_⟩ <;> repeat' (first|exact trivial|exact rfl|exact wkr rfl|exact wko rfl|exact Nat.zero_le _|exact qak lT|exact qak lV|exact qas (qcc _ _ _) (by decide)|exact kle rfl|exact bdq|exact mxI rfl|exact mxS rfl|apply And.intro)) (Nat.zero_le _) ?_
  intro k hk K hK
  obtain rfl:K = 25 :=hK
  conv => whnf
  by_cases hk2:k < (gB (lnsT (a,b,c,s) V T) i).length
  ·have hk1:IntKind.i64.wrap (Int.ofNat k + 1) = Int.ofNat (k + 1) :=qav (m :=k + 1) (by omega)
   have hc :=qdu (s :=gB (lnsT (a,b,c,s) V T) i) (i :=i) (k :=k) (by omega) (by omega)
   have hb:((gB (lnsT (a,b,c,s) V T) i).getD k 0).toNat ≤ 256 :=Nat.le_of_lt (UInt8.toNat_lt _)
   have ew:_ = Int.ofNat (ckN (lnsT (a,b,c,s) V T) i + ckL (gB (lnsT (a,b,c,s) V T) i) i (k + 1)) :=(qdf (c :=ckN (lnsT (a,b,c,s) V T) i + ckL (gB (lnsT (a,b,c,s) V T) i) i k) (by omega) hb (show k ≤ 4000 by omega) (show i < 1000 by omega)).trans (by rw [ckL,Nat.add_assoc])
   repeat ((first|refine qaf (nthP gr) ?_|refine qaf (qch hk2) ?_|refine qah (qae hi2) ?_|refine qag (qae hi2) ?_|refine pkT (qae hi2) ?_|refine qaa (qae hi2) ?_|refine qam (qae hi2) ?_|refine qan (qae hi2) ?_|refine pkF (qae hi2) ?_|refine qab (qae hi2) ?_|refine qah (qai hi2) ?_|refine qag (qai hi2) ?_|refine pkT (qai hi2) ?_|refine qaa (qai hi2) ?_|refine qah (qae hk2) ?_|refine qag (qae hk2) ?_|refine pkT (qae hk2) ?_|refine qaa (qae hk2) ?_|refine qam (qae hk2) ?_|refine qan (qae hk2) ?_|refine pkF (qae hk2) ?_|refine qab (qae hk2) ?_|refine qah (qai hk2) ?_|refine qag (qai hk2) ?_|refine pkT (qai hk2) ?_|refine qaa (qai hk2) ?_|refine qac hS (by kernel_rfl) ?_);conv => whnf)
   exact ⟨k + 1,hk2,by omega,Nat.le_refl _,(by refine ⟨rfl,rfl,rfl,rfl,rfl,rfl,25,rfl,?_,?_⟩ <;> repeat' (first|exact trivial|exact rfl|exact wkr rfl|exact wko rfl|exact Nat.zero_le _|exact ⟨_,rfl,WkV.int hk1⟩|exact ⟨_,rfl,WkV.int ew⟩|exact qak lT|exact qak lV|exact qas (qcc _ _ _) (by decide)|exact kle rfl|exact bdq|exact mxI rfl|exact mxS rfl|apply And.intro))⟩
  ·have hkE:k = (gB (lnsT (a,b,c,s) V T) i).length :=by omega
   have o1 :=qb6 sW i
   have o2 :=qa0 o1 hs
   have o3 :=qa0 o2 (Nat.le_refl ([10]:List UInt8).length)
   have o4:(ouB (lnsT (a,b,c,s) V T) i ++ gB (lnsT (a,b,c,s) V T) i).length ≤ 100000000 :=by omega
   have o5:((ouB (lnsT (a,b,c,s) V T) i ++ gB (lnsT (a,b,c,s) V T) i) ++ [10]).length ≤ 100000000 :=by simp only [List.length_cons,List.length_nil] at o3;omega
   have eO:AV.str ((ouB (lnsT (a,b,c,s) V T) i ++ gB (lnsT (a,b,c,s) V T) i) ++ [10]) = .str (ouB (lnsT (a,b,c,s) V T) (i + 1)) :=by rw [ouB,List.append_assoc]
   have hkf:decide (Int.ofNat k < Int.ofNat (gB (lnsT (a,b,c,s) V T) i).length) = false :=qa9 hk2
   repeat ((first|refine qaf (nthP gr) ?_|refine qah (qae hi2) ?_|refine qag (qae hi2) ?_|refine pkT (qae hi2) ?_|refine qaa (qae hi2) ?_|refine qam (qae hi2) ?_|refine qan (qae hi2) ?_|refine pkF (qae hi2) ?_|refine qab (qae hi2) ?_|refine qah (qai hi2) ?_|refine qag (qai hi2) ?_|refine pkT (qai hi2) ?_|refine qaa (qai hi2) ?_|refine qam hkf ?_|refine qan hkf ?_|refine pkF hkf ?_|refine qab hkf ?_|refine qac hS (by kernel_rfl) ?_);conv => whnf)
   refine .inl ?_
   conv => whnf
   repeat ((first|refine qaf (nthP gr) ?_|refine qah (qai hi2) ?_|refine qag (qai hi2) ?_|refine pkT (qai hi2) ?_|refine qaa (qai hi2) ?_|refine qah (qaj o4) ?_|refine qag (qaj o4) ?_|refine pkT (qaj o4) ?_|refine qaa (qaj o4) ?_|refine qam (qaj o4) ?_|refine qan (qaj o4) ?_|refine pkF (qaj o4) ?_|refine qab (qaj o4) ?_|refine qah (qaj o5) ?_|refine qag (qaj o5) ?_|refine pkT (qaj o5) ?_|refine qaa (qaj o5) ?_|refine qam (qaj o5) ?_|refine qan (qaj o5) ?_|refine pkF (qaj o5) ?_|refine qab (qaj o5) ?_|refine qac hS (by kernel_rfl) ?_);conv => whnf)
   exact ⟨i + 1,hi2,by omega,Nat.le_refl _,(by refine ⟨rfl,rfl,rfl,rfl,rfl,rfl,25,rfl,?_,?_⟩ <;> repeat' (first|exact trivial|exact rfl|exact wkr rfl|exact wko rfl|exact Nat.zero_le _|exact ⟨_,rfl,WkV.int hi1⟩|exact ⟨_,rfl,WkV.eq eO⟩|exact ⟨_,rfl,WkV.int (show Int.ofNat (ckN (lnsT (a,b,c,s) V T) i + ckL (gB (lnsT (a,b,c,s) V T) i) i k) = Int.ofNat (ckN (lnsT (a,b,c,s) V T) (i + 1)) by rw [ckN,hkE])⟩|exact qak lT|exact qak lV|exact qas (qcc _ _ _) (by decide)|exact kle rfl|exact bdq|exact mxI rfl|exact mxS rfl|apply And.intro))⟩
 have hiE2:i = (lnsT (a,b,c,s) V T).length :=by rw [qcf];omega
 have t :=qd6 (ckN (lnsT (a,b,c,s) V T) i)
 have hm :=Nat.mod_lt (ckN (lnsT (a,b,c,s) V T) i) (show 0 < 109 by decide)
 have p1 :=rdW t.1 (by omega)
 have p2 :=rdW t.2.1 (by omega)
 have p3 :=rdW t.2.2 (by omega)
 have o1 :=qb6 sW i
 have o2:(ouB (lnsT (a,b,c,s) V T) i ++ [101,110,100,32]).length ≤ 5000000 :=by rw [List.length_append];show _ + 4 ≤ _;omega
 have o3 :=qa0 o2 (qbb (ckN (lnsT (a,b,c,s) V T) i % 109 / 100))
 have o4 :=qa0 o3 (qbb (ckN (lnsT (a,b,c,s) V T) i % 109 / 10 % 10))
 have o5 :=qa0 o4 (qbb (ckN (lnsT (a,b,c,s) V T) i % 109 % 10))
 have o6 :=qa0 o5 (Nat.le_refl ([10]:List UInt8).length)
 refine qab (qa9 hi2) ?_
 conv => whnf
 refine .inl ?_
 conv => whnf
 repeat ((first|refine qah (qaj (milB o2 rfl)) ?_|refine qag (qaj (milB o2 rfl)) ?_|refine pkT (qaj (milB o2 rfl)) ?_|refine qaa (qaj (milB o2 rfl)) ?_|refine qam (qaj (milB o2 rfl)) ?_|refine qan (qaj (milB o2 rfl)) ?_|refine pkF (qaj (milB o2 rfl)) ?_|refine qab (qaj (milB o2 rfl)) ?_|refine qah (qaj (milB o3 rfl)) ?_|refine qag (qaj (milB o3 rfl)) ?_|refine pkT (qaj (milB o3 rfl)) ?_|refine qaa (qaj (milB o3 rfl)) ?_|refine qam (qaj (milB o3 rfl)) ?_|refine qan (qaj (milB o3 rfl)) ?_|refine pkF (qaj (milB o3 rfl)) ?_|refine qab (qaj (milB o3 rfl)) ?_|refine qah (qaj (milB o4 rfl)) ?_|refine qag (qaj (milB o4 rfl)) ?_|refine pkT (qaj (milB o4 rfl)) ?_|refine qaa (qaj (milB o4 rfl)) ?_|refine qam (qaj (milB o4 rfl)) ?_|refine qan (qaj (milB o4 rfl)) ?_|refine pkF (qaj (milB o4 rfl)) ?_|refine qab (qaj (milB o4 rfl)) ?_|refine qah (qaj (milB o5 rfl)) ?_|refine qag (qaj (milB o5 rfl)) ?_|refine pkT (qaj (milB o5 rfl)) ?_|refine qaa (qaj (milB o5 rfl)) ?_|refine qam (qaj (milB o5 rfl)) ?_|refine qan (qaj (milB o5 rfl)) ?_|refine pkF (qaj (milB o5 rfl)) ?_|refine qab (qaj (milB o5 rfl)) ?_|refine qah (qaj (milB o6 rfl)) ?_|refine qag (qaj (milB o6 rfl)) ?_|refine pkT (qaj (milB o6 rfl)) ?_|refine qaa (qaj (milB o6 rfl)) ?_|refine qam (qaj (milB o6 rfl)) ?_|refine qan (qaj (milB o6 rfl)) ?_|refine pkF (qaj (milB o6 rfl)) ?_|refine qab (qaj (milB o6 rfl)) ?_|refine qad hC (p1) ?_|refine qad hC (p2) ?_|refine qad hC (p3) ?_|refine qac hS (by kernel_rfl) ?_);conv => whnf)
 exact ⟨_,rfl,wk_s (by unfold prtT finB;rw [← hiE2])⟩
theorem qsz {a b c s:Nat} {V:List Nat} {T:List (List (Nat × Nat))} (hV0:V = []) (o:okR (a,b,c,s) V T) (hw:ShW (a,b,c,s) V T):Pure prog 13 [.agg [nv a,nv b,nv c,nv s,.nils],.lst (xqs T) T.length .no] (.str (prtT (a,b,c,s) V T)) :=by
 have hs:1 ≤ s ∧ s ≤ 3 :=o.1.2
 have hs4:s < 4 :=by omega
 have gs :=qoa hs
 have q1 :=qbo (n :=a) o.1.1.1
 have q2 :=qbo (n :=b) o.1.1.2.1
 have q3 :=qbo (n :=c) o.1.1.2.2
 have g1 :=qa0 (kle rfl:([114,117,108,101,32]:List UInt8).length ≤ 5) (qbb a)
 have g2 :=qa0 g1 (Nat.le_refl ([32]:List UInt8).length)
 have g3 :=qa0 g2 (qbb b)
 have g4 :=qa0 g3 (Nat.le_refl ([32]:List UInt8).length)
 have g5 :=qa0 g4 (qbb c)
 have g6 :=qa0 g5 (Nat.le_refl ([32]:List UInt8).length)
 have g7 :=qa0 g6 (qm1 s)
 have lV :=qa5 (zl V)
 have lT :=qcw T
 have hV9 :=hw.hV
 have hT9 :=hw.hT
 have sW :=hw.le
 refine qap hE rfl (by repeat' first|exact trivial|assumption|exact qal _|exact fun _ h => nomatch h|apply And.intro) (by repeat' first|exact trivial|assumption|exact qal _|exact fun _ h => nomatch h|apply And.intro) fun S q pc hS hq hC hE => ?_
 conv => whnf
 repeat ((first|refine qaf (nthP gs) ?_|refine qah (qai hs4) ?_|refine qag (qai hs4) ?_|refine pkT (qai hs4) ?_|refine qaa (qai hs4) ?_|refine qah (qaj (milB g1 rfl)) ?_|refine qag (qaj (milB g1 rfl)) ?_|refine pkT (qaj (milB g1 rfl)) ?_|refine qaa (qaj (milB g1 rfl)) ?_|refine qam (qaj (milB g1 rfl)) ?_|refine qan (qaj (milB g1 rfl)) ?_|refine pkF (qaj (milB g1 rfl)) ?_|refine qab (qaj (milB g1 rfl)) ?_|refine qah (qaj (milB g2 rfl)) ?_|refine qag (qaj (milB g2 rfl)) ?_|refine pkT (qaj (milB g2 rfl)) ?_|refine qaa (qaj (milB g2 rfl)) ?_|refine qam (qaj (milB g2 rfl)) ?_|refine qan (qaj (milB g2 rfl)) ?_|refine pkF (qaj (milB g2 rfl)) ?_|refine qab (qaj (milB g2 rfl)) ?_|refine qah (qaj (milB g3 rfl)) ?_|refine qag (qaj (milB g3 rfl)) ?_|refine pkT (qaj (milB g3 rfl)) ?_|refine qaa (qaj (milB g3 rfl)) ?_|refine qam (qaj (milB g3 rfl)) ?_|refine qan (qaj (milB g3 rfl)) ?_|refine pkF (qaj (milB g3 rfl)) ?_|refine qab (qaj (milB g3 rfl)) ?_|refine qah (qaj (milB g4 rfl)) ?_|refine qag (qaj (milB g4 rfl)) ?_|refine pkT (qaj (milB g4 rfl)) ?_|refine qaa (qaj (milB g4 rfl)) ?_|refine qam (qaj (milB g4 rfl)) ?_|refine qan (qaj (milB g4 rfl)) ?_|refine pkF (qaj (milB g4 rfl)) ?_|refine qab (qaj (milB g4 rfl)) ?_|refine qah (qaj (milB g5 rfl)) ?_|refine qag (qaj (milB g5 rfl)) ?_|refine pkT (qaj (milB g5 rfl)) ?_|refine qaa (qaj (milB g5 rfl)) ?_|refine qam (qaj (milB g5 rfl)) ?_|refine qan (qaj (milB g5 rfl)) ?_|refine pkF (qaj (milB g5 rfl)) ?_|refine qab (qaj (milB g5 rfl)) ?_|refine qah (qaj (milB g6 rfl)) ?_|refine qag (qaj (milB g6 rfl)) ?_|refine pkT (qaj (milB g6 rfl)) ?_|refine qaa (qaj (milB g6 rfl)) ?_|refine qam (qaj (milB g6 rfl)) ?_|refine qan (qaj (milB g6 rfl)) ?_|refine pkF (qaj (milB g6 rfl)) ?_|refine qab (qaj (milB g6 rfl)) ?_|refine qah (qaj (milB g7 rfl)) ?_|refine qag (qaj (milB g7 rfl)) ?_|refine pkT (qaj (milB g7 rfl)) ?_|refine qaa (qaj (milB g7 rfl)) ?_|refine qam (qaj (milB g7 rfl)) ?_|refine qan (qaj (milB g7 rfl)) ?_|refine pkF (qaj (milB g7 rfl)) ?_|refine qab (qaj (milB g7 rfl)) ?_|refine qad hC (q1) ?_|refine qad hC (q2) ?_|refine qad hC (q3) ?_|refine qad hC (qa2) ?_|refine qac hS (by kernel_rfl) ?_);conv => whnf)
 refine qao hE hS ?_
 conv => whnf
 repeat ((first|refine qac hS (by kernel_rfl) ?_);conv => whnf)
 have eV:AV.str [110,101,118,101,114] = .str (lnW qbv V) :=by rw [hV0];rfl
 have eR0:AV.lst [.str ((((((([114,117,108,101,32] ++ dec a) ++ [32]) ++ dec b) ++ [32]) ++ dec c) ++ [32]) ++ qcb s),.str [110,101,118,101,114]] 2 (.ch 24) = .lst (rwS (a,b,c,s) V (T.take 0)) (0 + 2) (.ch 24) :=by
  rw [qn0,AV.str.inj eV];rfl
 refine qar hE hS (A :=Nat) [1] (fun i => [(5,.lst (rwS (a,b,c,s) V (T.take i)) (i + 2) (.ch 24)),(8,nv i)]) (fun i => [(24,.chain (i + 2) 1 9)]) (fun _ => []) (fun i => i ≤ T.length) (fun i => T.length - i) 0 (kle rfl) rfl (by refine ⟨rfl,rfl,rfl,rfl,rfl,rfl,25,rfl,?_,?_⟩ <;> repeat' (first|exact trivial|exact rfl|exact wkr rfl|exact wko rfl|exact Nat.zero_le _|exact ⟨_,rfl,WkV.eq eR0⟩|exact qak lT|exact qak lV|exact qas (qcc _ _ _) (by decide)|exact kle rfl|exact bdq|exact mxI rfl|exact mxS rfl|apply And.intro)) (Nat.zero_le _) ?_
 intro i hi K hK
 obtain rfl:K = 25 :=hK
 conv => whnf
 by_cases hi2:i < T.length
 ·have hi1:IntKind.i64.wrap (Int.ofNat i + 1) = Int.ofNat (i + 1) :=qav (m :=i + 1) (by omega)
  have gx :=qfm T hi2
  have hm:gT T i ∈ T :=qgo hi2
  have ht9 :=hw.ht _ hm
  have hlt :=o.2.2 _ hm
  have d1:decide ((i + 2 + (0 + 1)) * 16 ≤ 140737488355328) = true :=decide_eq_true (by omega)
  have d2:decide (i + 2 + (0 + 1) ≤ 9223372036854775807) = true :=decide_eq_true (by omega)
  have d3 :=qk1 (r :=(a,b,c,s)) (V :=V) (T :=T.take i) (n :=i + 2) (by rw [List.length_take];omega)
  have d4:decide (i + 2 = i + 2) = true :=decide_eq_true rfl
  obtain ⟨t,et⟩ : ∃ t,t = gT T i :=⟨_,rfl⟩
  rw [← et] at gx ht9 hlt
  refine Or.elim (Classical.em (t = [])) (fun ht0 => ?_) fun ht0 => ?_
  ·have eX:xqV t = .nils :=if_pos ht0
   rw [eX] at gx
   have e2 :=qjf (a,b,c,s) V T hi2
   rw [← et,show lnT t = [116,114,97,105,110] by rw [ht0];rfl] at e2
   repeat ((first|refine qaf (nthP gx) ?_|refine qah (qae hi2) ?_|refine qag (qae hi2) ?_|refine pkT (qae hi2) ?_|refine qaa (qae hi2) ?_|refine qam (qae hi2) ?_|refine qan (qae hi2) ?_|refine pkF (qae hi2) ?_|refine qab (qae hi2) ?_|refine qah (qai hi2) ?_|refine qag (qai hi2) ?_|refine pkT (qai hi2) ?_|refine qaa (qai hi2) ?_|refine qac hS (by kernel_rfl) ?_);conv => whnf)
   refine qao hE hS ?_
   conv => whnf
   repeat ((first|refine qaf (nthP gx) ?_|refine qah (qae hi2) ?_|refine qag (qae hi2) ?_|refine pkT (qae hi2) ?_|refine qaa (qae hi2) ?_|refine qam (qae hi2) ?_|refine qan (qae hi2) ?_|refine pkF (qae hi2) ?_|refine qab (qae hi2) ?_|refine qah (qai hi2) ?_|refine qag (qai hi2) ?_|refine pkT (qai hi2) ?_|refine qaa (qai hi2) ?_|refine qah d1 ?_|refine qag d1 ?_|refine pkT d1 ?_|refine qaa d1 ?_|refine qah d2 ?_|refine qag d2 ?_|refine pkT d2 ?_|refine qaa d2 ?_|refine qah d3 ?_|refine qag d3 ?_|refine pkT d3 ?_|refine qaa d3 ?_|refine qam d3 ?_|refine qan d3 ?_|refine pkF d3 ?_|refine qab d3 ?_|refine qah d4 ?_|refine qag d4 ?_|refine pkT d4 ?_|refine qaa d4 ?_|refine qac hS (by kernel_rfl) ?_);conv => whnf)
   exact ⟨i + 1,hi2,by omega,kle rfl,(by refine ⟨rfl,rfl,rfl,rfl,rfl,rfl,25,rfl,?_,?_⟩ <;> repeat' (first|exact trivial|exact rfl|exact wkr rfl|exact wko rfl|exact Nat.zero_le _|exact ⟨_,rfl,WkV.int hi1⟩|exact ⟨_,rfl,WkV.eq (congrArg (fun z => AV.lst z (i + 2 + 1) (.ch 24)) e2)⟩|exact qak lT|exact qak lV|exact qas (qcc _ _ _) (by decide)|exact kle rfl|exact bdq|exact mxI rfl|exact mxS rfl|apply And.intro))⟩
  ·have eX:xqV t = pv (zp t) :=if_neg ht0
   rw [eX] at gx
   have lF :=qal (zp t)
   repeat ((first|refine qaf (nthP gx) ?_|refine qah (qae hi2) ?_|refine qag (qae hi2) ?_|refine pkT (qae hi2) ?_|refine qaa (qae hi2) ?_|refine qam (qae hi2) ?_|refine qan (qae hi2) ?_|refine pkF (qae hi2) ?_|refine qab (qae hi2) ?_|refine qah (qai hi2) ?_|refine qag (qai hi2) ?_|refine pkT (qai hi2) ?_|refine qaa (qai hi2) ?_|refine qac hS (by kernel_rfl) ?_);conv => whnf)
   refine qar hE hS (A :=Nat) [1,5,8] (fun j => [(9,.str (lnW qci (flN (t.take j)))),(10,nv j)]) (fun _ => []) (fun _ => []) (fun j => j ≤ t.length) (fun j => t.length - j) 0 (kle rfl) rfl (by refine ⟨rfl,rfl,rfl,rfl,rfl,rfl,25,rfl,?_,?_⟩ <;> repeat' (first|exact trivial|exact rfl|exact wkr rfl|exact wko rfl|exact Nat.zero_le _|exact qak lT|exact qak lV|exact qas (qcc _ _ _) (by decide)|exact kle rfl|exact bdq|exact mxI rfl|exact mxS rfl|apply And.intro)) (Nat.zero_le _) ?_
   intro j hj K hK
   obtain rfl:K = 25 :=hK
   conv => whnf
   by_cases hj2:j < t.length
   ·have hj1:IntKind.i64.wrap (Int.ofNat j + 1) = Int.ofNat (j + 1) :=qav (m :=j + 1) (by omega)
    have hjz:j < (zp t).length :=by rw [qdy];exact hj2
    have gf :=qjw (zp t) hjz
    have gz:gpr (zp t) j = (Int.ofNat (gq t j).1,Int.ofNat (gq t j).2) :=by simp [gpr,gq,zp,List.getD,hj2]
    rw [gz] at gf
    have hl :=qvv hlt hj2
    have p1 :=qbo hl.1
    have p2 :=qbo hl.2
    have f1 :=qa0 (qvw (t :=t) (j :=j) (by omega)) (Nat.le_refl ([32]:List UInt8).length)
    have f2 :=qa0 f1 (qbb (gq t j).1)
    have f3 :=qa0 f2 (Nat.le_refl ([32]:List UInt8).length)
    have f4 :=qa0 f3 (qbb (gq t j).2)
    have e3 :=congrArg AV.str (lnT2 t hj2)
    repeat ((first|refine qaf (nthP gx) ?_|refine qaf (nthP gf.1) ?_|refine qaf (nthP gf.2) ?_|refine qah (qae hi2) ?_|refine qag (qae hi2) ?_|refine pkT (qae hi2) ?_|refine qaa (qae hi2) ?_|refine qam (qae hi2) ?_|refine qan (qae hi2) ?_|refine pkF (qae hi2) ?_|refine qab (qae hi2) ?_|refine qah (qai hi2) ?_|refine qag (qai hi2) ?_|refine pkT (qai hi2) ?_|refine qaa (qai hi2) ?_|refine qah (qae hjz) ?_|refine qag (qae hjz) ?_|refine pkT (qae hjz) ?_|refine qaa (qae hjz) ?_|refine qam (qae hjz) ?_|refine qan (qae hjz) ?_|refine pkF (qae hjz) ?_|refine qab (qae hjz) ?_|refine qah (qai hjz) ?_|refine qag (qai hjz) ?_|refine pkT (qai hjz) ?_|refine qaa (qai hjz) ?_|refine qah (qaj (milB f1 rfl)) ?_|refine qag (qaj (milB f1 rfl)) ?_|refine pkT (qaj (milB f1 rfl)) ?_|refine qaa (qaj (milB f1 rfl)) ?_|refine qam (qaj (milB f1 rfl)) ?_|refine qan (qaj (milB f1 rfl)) ?_|refine pkF (qaj (milB f1 rfl)) ?_|refine qab (qaj (milB f1 rfl)) ?_|refine qah (qaj (milB f2 rfl)) ?_|refine qag (qaj (milB f2 rfl)) ?_|refine pkT (qaj (milB f2 rfl)) ?_|refine qaa (qaj (milB f2 rfl)) ?_|refine qam (qaj (milB f2 rfl)) ?_|refine qan (qaj (milB f2 rfl)) ?_|refine pkF (qaj (milB f2 rfl)) ?_|refine qab (qaj (milB f2 rfl)) ?_|refine qah (qaj (milB f3 rfl)) ?_|refine qag (qaj (milB f3 rfl)) ?_|refine pkT (qaj (milB f3 rfl)) ?_|refine qaa (qaj (milB f3 rfl)) ?_|refine qam (qaj (milB f3 rfl)) ?_|refine qan (qaj (milB f3 rfl)) ?_|refine pkF (qaj (milB f3 rfl)) ?_|refine qab (qaj (milB f3 rfl)) ?_|refine qah (qaj (milB f4 rfl)) ?_|refine qag (qaj (milB f4 rfl)) ?_|refine pkT (qaj (milB f4 rfl)) ?_|refine qaa (qaj (milB f4 rfl)) ?_|refine qam (qaj (milB f4 rfl)) ?_|refine qan (qaj (milB f4 rfl)) ?_|refine pkF (qaj (milB f4 rfl)) ?_|refine qab (qaj (milB f4 rfl)) ?_|refine qad hC (p1) ?_|refine qad hC (p2) ?_|refine qac hS (by kernel_rfl) ?_);conv => whnf)
    exact ⟨j + 1,hj2,by omega,kle rfl,(by refine ⟨rfl,rfl,rfl,rfl,rfl,rfl,25,rfl,?_,?_⟩ <;> repeat' (first|exact trivial|exact rfl|exact wkr rfl|exact wko rfl|exact Nat.zero_le _|exact ⟨_,rfl,WkV.int hj1⟩|exact ⟨_,rfl,WkV.eq e3⟩|exact qak lT|exact qak lV|exact qas (qcc _ _ _) (by decide)|exact kle rfl|exact bdq|exact mxI rfl|exact mxS rfl|apply And.intro))⟩
   ·have hjE:j = t.length :=by omega
    have e2 :=qjf (a,b,c,s) V T hi2
    rw [← et,show lnT t = lnW qci (flN (t.take j)) by rw [hjE,List.take_length];rfl] at e2
    have hjz:¬ j < (zp t).length :=by rw [qdy];exact hj2
    have hjf:decide (Int.ofNat j < Int.ofNat (zp t).length) = false :=qa9 hjz
    repeat ((first|refine qaf (nthP gx) ?_|refine qah (qae hi2) ?_|refine qag (qae hi2) ?_|refine pkT (qae hi2) ?_|refine qaa (qae hi2) ?_|refine qam (qae hi2) ?_|refine qan (qae hi2) ?_|refine pkF (qae hi2) ?_|refine qab (qae hi2) ?_|refine qah (qai hi2) ?_|refine qag (qai hi2) ?_|refine pkT (qai hi2) ?_|refine qaa (qai hi2) ?_|refine qam hjf ?_|refine qan hjf ?_|refine pkF hjf ?_|refine qab hjf ?_|refine qac hS (by kernel_rfl) ?_);conv => whnf)
    refine .inl ?_
    conv => whnf
    repeat ((first|refine qah d1 ?_|refine qag d1 ?_|refine pkT d1 ?_|refine qaa d1 ?_|refine qah d2 ?_|refine qag d2 ?_|refine pkT d2 ?_|refine qaa d2 ?_|refine qah d3 ?_|refine qag d3 ?_|refine pkT d3 ?_|refine qaa d3 ?_|refine qam d3 ?_|refine qan d3 ?_|refine pkF d3 ?_|refine qab d3 ?_|refine qah d4 ?_|refine qag d4 ?_|refine pkT d4 ?_|refine qaa d4 ?_|refine qac hS (by kernel_rfl) ?_);conv => whnf)
    exact ⟨i + 1,hi2,by omega,kle rfl,(by refine ⟨rfl,rfl,rfl,rfl,rfl,rfl,25,rfl,?_,?_⟩ <;> repeat' (first|exact trivial|exact rfl|exact wkr rfl|exact wko rfl|exact Nat.zero_le _|exact ⟨_,rfl,WkV.int hi1⟩|exact ⟨_,rfl,WkV.eq (congrArg (fun z => AV.lst z (i + 2 + 1) (.ch 24)) e2)⟩|exact qak lT|exact qak lV|exact qas (qcc _ _ _) (by decide)|exact kle rfl|exact bdq|exact mxI rfl|exact mxS rfl|apply And.intro))⟩
 refine qab (qa9 hi2) ?_
 conv => whnf
 refine .inl ?_
 conv => whnf
 have eR:AV.lst (rwS (a,b,c,s) V (T.take i)) (i + 2) (.ch 24) = .lst (rwS (a,b,c,s) V T) (T.length + 2) (.ch 24) :=by rw [show i = T.length by omega,List.take_length]
 repeat ((first|refine qac hS (by kernel_rfl) ?_);conv => whnf)
 refine qar hE hS (A :=Nat) [] (fun i => [(5,.lst (rwS (a,b,c,s) V T) (T.length + 2) (.ch 24)),(11,.str (ouB (lnsT (a,b,c,s) V T) i)),(12,nv (ckN (lnsT (a,b,c,s) V T) i)),(13,nv i)]) (fun _ => []) (fun _ => []) (fun i => i ≤ T.length + 2) (fun i => T.length + 2 - i) 0 (kle rfl) rfl (by refine ⟨rfl,rfl,rfl,rfl,rfl,rfl,25,rfl,?_,?_⟩ <;> repeat' (first|exact trivial|exact rfl|exact wkr rfl|exact wko rfl|exact Nat.zero_le _|exact ⟨_,rfl,WkV.eq eR⟩|exact qak lT|exact qak lV|exact qas (qcc _ _ _) (by decide)|exact kle rfl|exact bdq|exact mxI rfl|exact mxS rfl|apply And.intro)) (Nat.zero_le _) ?_
 intro i hi K hK
 obtain rfl:K = 25 :=hK
 conv => whnf
 by_cases hi2:i < T.length + 2
 ·have hi1:IntKind.i64.wrap (Int.ofNat i + 1) = Int.ofNat (i + 1) :=qav (m :=i + 1) (by omega)
  have hs :=sW i
  have gr :=qjv (a,b,c,s) V T hi2
  have hw :=qdt sW i (by omega)
  repeat ((first|refine qaf (nthP gr) ?_|refine qah (qae hi2) ?_|refine qag (qae hi2) ?_|refine pkT (qae hi2) ?_|refine qaa (qae hi2) ?_|refine qam (qae hi2) ?_|refine qan (qae hi2) ?_|refine pkF (qae hi2) ?_|refine qab (qae hi2) ?_|refine qah (qai hi2) ?_|refine qag (qai hi2) ?_|refine pkT (qai hi2) ?_|refine qaa (qai hi2) ?_|refine qac hS (by kernel_rfl) ?_);conv => whnf)
  refine qar hE hS (A :=Nat) [5,11,13] (fun k => [(12,nv (ckN (lnsT (a,b,c,s) V T) i + ckL (gB (lnsT (a,b,c,s) V T) i) i k)),(14,nv k)]) (fun _ => []) (fun _ => []) (fun k => k ≤ (gB (lnsT (a,b,c,s) V T) i).length) (fun k => (gB (lnsT (a,b,c,s) V T) i).length - k) 0 (kle rfl) rfl (by refine ⟨rfl,rfl,rfl,rfl,rfl,rfl,25,rfl,?_,?_⟩ <;> repeat' (first|exact trivial|exact rfl|exact wkr rfl|exact wko rfl|exact Nat.zero_le _|exact qak lT|exact qak lV|exact qas (qcc _ _ _) (by decide)|exact kle rfl|exact bdq|exact mxI rfl|exact mxS rfl|apply And.intro)) (Nat.zero_le _) ?_
  intro k hk K hK
  obtain rfl:K = 25 :=hK
  conv => whnf
  by_cases hk2:k < (gB (lnsT (a,b,c,s) V T) i).length
  ·have hk1:IntKind.i64.wrap (Int.ofNat k + 1) = Int.ofNat (k + 1) :=qav (m :=k + 1) (by omega)
   have hc :=qdu (s :=gB (lnsT (a,b,c,s) V T) i) (i :=i) (k :=k) (by omega) (by omega)
   have hb:((gB (lnsT (a,b,c,s) V T) i).getD k 0).toNat ≤ 256 :=Nat.le_of_lt (UInt8.toNat_lt _)
   have ew:_ = Int.ofNat (ckN (lnsT (a,b,c,s) V T) i + ckL (gB (lnsT (a,b,c,s) V T) i) i (k + 1)) :=(qdf (c :=ckN (lnsT (a,b,c,s) V T) i + ckL (gB (lnsT (a,b,c,s) V T) i) i k) (by omega) hb (show k ≤ 4000 by omega) (show i < 1000 by omega)).trans (by rw [ckL,Nat.add_assoc])
   repeat ((first|refine qaf (nthP gr) ?_|refine qaf (qch hk2) ?_|refine qah (qae hi2) ?_|refine qag (qae hi2) ?_|refine pkT (qae hi2) ?_|refine qaa (qae hi2) ?_|refine qam (qae hi2) ?_|refine qan (qae hi2) ?_|refine pkF (qae hi2) ?_|refine qab (qae hi2) ?_|refine qah (qai hi2) ?_|refine qag (qai hi2) ?_|refine pkT (qai hi2) ?_|refine qaa (qai hi2) ?_|refine qah (qae hk2) ?_|refine qag (qae hk2) ?_|refine pkT (qae hk2) ?_|refine qaa (qae hk2) ?_|refine qam (qae hk2) ?_|refine qan (qae hk2) ?_|refine pkF (qae hk2) ?_|refine qab (qae hk2) ?_|refine qah (qai hk2) ?_|refine qag (qai hk2) ?_|refine pkT (qai hk2) ?_|refine qaa (qai hk2) ?_|refine qac hS (by kernel_rfl) ?_);conv => whnf)
   exact ⟨k + 1,hk2,by omega,Nat.le_refl _,(by refine ⟨rfl,rfl,rfl,rfl,rfl,rfl,25,rfl,?_,?_⟩ <;> repeat' (first|exact trivial|exact rfl|exact wkr rfl|exact wko rfl|exact Nat.zero_le _|exact ⟨_,rfl,WkV.int hk1⟩|exact ⟨_,rfl,WkV.int ew⟩|exact qak lT|exact qak lV|exact qas (qcc _ _ _) (by decide)|exact kle rfl|exact bdq|exact mxI rfl|exact mxS rfl|apply And.intro))⟩
  ·have hkE:k = (gB (lnsT (a,b,c,s) V T) i).length :=by omega
   have o1 :=qb6 sW i
   have o2 :=qa0 o1 hs
   have o3 :=qa0 o2 (Nat.le_refl ([10]:List UInt8).length)
   have o4:(ouB (lnsT (a,b,c,s) V T) i ++ gB (lnsT (a,b,c,s) V T) i).length ≤ 100000000 :=by omega
   have o5:((ouB (lnsT (a,b,c,s) V T) i ++ gB (lnsT (a,b,c,s) V T) i) ++ [10]).length ≤ 100000000 :=by simp only [List.length_cons,List.length_nil] at o3;omega
   have eO:AV.str ((ouB (lnsT (a,b,c,s) V T) i ++ gB (lnsT (a,b,c,s) V T) i) ++ [10]) = .str (ouB (lnsT (a,b,c,s) V T) (i + 1)) :=by rw [ouB,List.append_assoc]
   have hkf:decide (Int.ofNat k < Int.ofNat (gB (lnsT (a,b,c,s) V T) i).length) = false :=qa9 hk2
   repeat ((first|refine qaf (nthP gr) ?_|refine qah (qae hi2) ?_|refine qag (qae hi2) ?_|refine pkT (qae hi2) ?_|refine qaa (qae hi2) ?_|refine qam (qae hi2) ?_|refine qan (qae hi2) ?_|refine pkF (qae hi2) ?_|refine qab (qae hi2) ?_|refine qah (qai hi2) ?_|refine qag (qai hi2) ?_|refine pkT (qai hi2) ?_|refine qaa (qai hi2) ?_|refine qam hkf ?_|refine qan hkf ?_|refine pkF hkf ?_|refine qab hkf ?_|refine qac hS (by kernel_rfl) ?_);conv => whnf)
   refine .inl ?_
   conv => whnf
   repeat ((first|refine qaf (nthP gr) ?_|refine qah (qai hi2) ?_|refine qag (qai hi2) ?_|refine pkT (qai hi2) ?_|refine qaa (qai hi2) ?_|refine qah (qaj o4) ?_|refine qag (qaj o4) ?_|refine pkT (qaj o4) ?_|refine qaa (qaj o4) ?_|refine qam (qaj o4) ?_|refine qan (qaj o4) ?_|refine pkF (qaj o4) ?_|refine qab (qaj o4) ?_|refine qah (qaj o5) ?_|refine qag (qaj o5) ?_|refine pkT (qaj o5) ?_|refine qaa (qaj o5) ?_|refine qam (qaj o5) ?_|refine qan (qaj o5) ?_|refine pkF (qaj o5) ?_|refine qab (qaj o5) ?_|refine qac hS (by kernel_rfl) ?_);conv => whnf)
   exact ⟨i + 1,hi2,by omega,Nat.le_refl _,(by refine ⟨rfl,rfl,rfl,rfl,rfl,rfl,25,rfl,?_,?_⟩ <;> repeat' (first|exact trivial|exact rfl|exact wkr rfl|exact wko rfl|exact Nat.zero_le _|exact ⟨_,rfl,WkV.int hi1⟩|exact ⟨_,rfl,WkV.eq eO⟩|exact ⟨_,rfl,WkV.int (show Int.ofNat (ckN (lnsT (a,b,c,s) V T) i + ckL (gB (lnsT (a,b,c,s) V T) i) i k) = Int.ofNat (ckN (lnsT (a,b,c,s) V T) (i + 1)) by rw [ckN,hkE])⟩|exact qak lT|exact qak lV|exact qas (qcc _ _ _) (by decide)|exact kle rfl|exact bdq|exact mxI rfl|exact mxS rfl|apply And.intro))⟩
 have hiE2:i = (lnsT (a,b,c,s) V T).length :=by rw [qcf];omega
 have t :=qd6 (ckN (lnsT (a,b,c,s) V T) i)
 have hm :=Nat.mod_lt (ckN (lnsT (a,b,c,s) V T) i) (show 0 < 109 by decide)
 have p1 :=rdW t.1 (by omega)
 have p2 :=rdW t.2.1 (by omega)
 have p3 :=rdW t.2.2 (by omega)
 have o1 :=qb6 sW i
 have o2:(ouB (lnsT (a,b,c,s) V T) i ++ [101,110,100,32]).length ≤ 5000000 :=by rw [List.length_append];show _ + 4 ≤ _;omega
 have o3 :=qa0 o2 (qbb (ckN (lnsT (a,b,c,s) V T) i % 109 / 100))
 have o4 :=qa0 o3 (qbb (ckN (lnsT (a,b,c,s) V T) i % 109 / 10 % 10))
 have o5 :=qa0 o4 (qbb (ckN (lnsT (a,b,c,s) V T) i % 109 % 10))
 have o6 :=qa0 o5 (Nat.le_refl ([10]:List UInt8).length)
 refine qab (qa9 hi2) ?_
 conv => whnf
 refine .inl ?_
 conv => whnf
 repeat ((first|refine qah (qaj (milB o2 rfl)) ?_|refine qag (qaj (milB o2 rfl)) ?_|refine pkT (qaj (milB o2 rfl)) ?_|refine qaa (qaj (milB o2 rfl)) ?_|refine qam (qaj (milB o2 rfl)) ?_|refine qan (qaj (milB o2 rfl)) ?_|refine pkF (qaj (milB o2 rfl)) ?_|refine qab (qaj (milB o2 rfl)) ?_|refine qah (qaj (milB o3 rfl)) ?_|refine qag (qaj (milB o3 rfl)) ?_|refine pkT (qaj (milB o3 rfl)) ?_|refine qaa (qaj (milB o3 rfl)) ?_|refine qam (qaj (milB o3 rfl)) ?_|refine qan (qaj (milB o3 rfl)) ?_|refine pkF (qaj (milB o3 rfl)) ?_|refine qab (qaj (milB o3 rfl)) ?_|refine qah (qaj (milB o4 rfl)) ?_|refine qag (qaj (milB o4 rfl)) ?_|refine pkT (qaj (milB o4 rfl)) ?_|refine qaa (qaj (milB o4 rfl)) ?_|refine qam (qaj (milB o4 rfl)) ?_|refine qan (qaj (milB o4 rfl)) ?_|refine pkF (qaj (milB o4 rfl)) ?_|refine qab (qaj (milB o4 rfl)) ?_|refine qah (qaj (milB o5 rfl)) ?_|refine qag (qaj (milB o5 rfl)) ?_|refine pkT (qaj (milB o5 rfl)) ?_|refine qaa (qaj (milB o5 rfl)) ?_|refine qam (qaj (milB o5 rfl)) ?_|refine qan (qaj (milB o5 rfl)) ?_|refine pkF (qaj (milB o5 rfl)) ?_|refine qab (qaj (milB o5 rfl)) ?_|refine qah (qaj (milB o6 rfl)) ?_|refine qag (qaj (milB o6 rfl)) ?_|refine pkT (qaj (milB o6 rfl)) ?_|refine qaa (qaj (milB o6 rfl)) ?_|refine qam (qaj (milB o6 rfl)) ?_|refine qan (qaj (milB o6 rfl)) ?_|refine pkF (qaj (milB o6 rfl)) ?_|refine qab (qaj (milB o6 rfl)) ?_|refine qad hC (p1) ?_|refine qad hC (p2) ?_|refine qad hC (p3) ?_|refine qac hS (by kernel_rfl) ?_);conv => whnf)
 exact ⟨_,rfl,wk_s (by unfold prtT finB;rw [← hiE2])⟩
theorem qsy {a b c s:Nat} {V:List Nat} {T:List (List (Nat × Nat))} (hV0:V = []) (hT0:T = []) (o:okR (a,b,c,s) V T) (hw:ShW (a,b,c,s) V T):Pure prog 13 [.agg [nv a,nv b,nv c,nv s,.nils],.nils] (.str (prtT (a,b,c,s) V T)) :=by
 have hs:1 ≤ s ∧ s ≤ 3 :=o.1.2
 have hs4:s < 4 :=by omega
 have gs :=qoa hs
 have q1 :=qbo (n :=a) o.1.1.1
 have q2 :=qbo (n :=b) o.1.1.2.1
 have q3 :=qbo (n :=c) o.1.1.2.2
 have g1 :=qa0 (kle rfl:([114,117,108,101,32]:List UInt8).length ≤ 5) (qbb a)
 have g2 :=qa0 g1 (Nat.le_refl ([32]:List UInt8).length)
 have g3 :=qa0 g2 (qbb b)
 have g4 :=qa0 g3 (Nat.le_refl ([32]:List UInt8).length)
 have g5 :=qa0 g4 (qbb c)
 have g6 :=qa0 g5 (Nat.le_refl ([32]:List UInt8).length)
 have g7 :=qa0 g6 (qm1 s)
 have lV :=qa5 (zl V)
 have lT :=qcw T
 have hV9 :=hw.hV
 have hT9 :=hw.hT
 have sW :=hw.le
 refine qap hE rfl (by repeat' first|exact trivial|assumption|exact qal _|exact fun _ h => nomatch h|apply And.intro) (by repeat' first|exact trivial|assumption|exact qal _|exact fun _ h => nomatch h|apply And.intro) fun S q pc hS hq hC hE => ?_
 conv => whnf
 repeat ((first|refine qaf (nthP gs) ?_|refine qah (qai hs4) ?_|refine qag (qai hs4) ?_|refine pkT (qai hs4) ?_|refine qaa (qai hs4) ?_|refine qah (qaj (milB g1 rfl)) ?_|refine qag (qaj (milB g1 rfl)) ?_|refine pkT (qaj (milB g1 rfl)) ?_|refine qaa (qaj (milB g1 rfl)) ?_|refine qam (qaj (milB g1 rfl)) ?_|refine qan (qaj (milB g1 rfl)) ?_|refine pkF (qaj (milB g1 rfl)) ?_|refine qab (qaj (milB g1 rfl)) ?_|refine qah (qaj (milB g2 rfl)) ?_|refine qag (qaj (milB g2 rfl)) ?_|refine pkT (qaj (milB g2 rfl)) ?_|refine qaa (qaj (milB g2 rfl)) ?_|refine qam (qaj (milB g2 rfl)) ?_|refine qan (qaj (milB g2 rfl)) ?_|refine pkF (qaj (milB g2 rfl)) ?_|refine qab (qaj (milB g2 rfl)) ?_|refine qah (qaj (milB g3 rfl)) ?_|refine qag (qaj (milB g3 rfl)) ?_|refine pkT (qaj (milB g3 rfl)) ?_|refine qaa (qaj (milB g3 rfl)) ?_|refine qam (qaj (milB g3 rfl)) ?_|refine qan (qaj (milB g3 rfl)) ?_|refine pkF (qaj (milB g3 rfl)) ?_|refine qab (qaj (milB g3 rfl)) ?_|refine qah (qaj (milB g4 rfl)) ?_|refine qag (qaj (milB g4 rfl)) ?_|refine pkT (qaj (milB g4 rfl)) ?_|refine qaa (qaj (milB g4 rfl)) ?_|refine qam (qaj (milB g4 rfl)) ?_|refine qan (qaj (milB g4 rfl)) ?_|refine pkF (qaj (milB g4 rfl)) ?_|refine qab (qaj (milB g4 rfl)) ?_|refine qah (qaj (milB g5 rfl)) ?_|refine qag (qaj (milB g5 rfl)) ?_|refine pkT (qaj (milB g5 rfl)) ?_|refine qaa (qaj (milB g5 rfl)) ?_|refine qam (qaj (milB g5 rfl)) ?_|refine qan (qaj (milB g5 rfl)) ?_|refine pkF (qaj (milB g5 rfl)) ?_|refine qab (qaj (milB g5 rfl)) ?_|refine qah (qaj (milB g6 rfl)) ?_|refine qag (qaj (milB g6 rfl)) ?_|refine pkT (qaj (milB g6 rfl)) ?_|refine qaa (qaj (milB g6 rfl)) ?_|refine qam (qaj (milB g6 rfl)) ?_|refine qan (qaj (milB g6 rfl)) ?_|refine pkF (qaj (milB g6 rfl)) ?_|refine qab (qaj (milB g6 rfl)) ?_|refine qah (qaj (milB g7 rfl)) ?_|refine qag (qaj (milB g7 rfl)) ?_|refine pkT (qaj (milB g7 rfl)) ?_|refine qaa (qaj (milB g7 rfl)) ?_|refine qam (qaj (milB g7 rfl)) ?_|refine qan (qaj (milB g7 rfl)) ?_|refine pkF (qaj (milB g7 rfl)) ?_|refine qab (qaj (milB g7 rfl)) ?_|refine qad hC (q1) ?_|refine qad hC (q2) ?_|refine qad hC (q3) ?_|refine qad hC (qa2) ?_|refine qac hS (by kernel_rfl) ?_);conv => whnf)
 refine qao hE hS ?_
 conv => whnf
 repeat ((first|refine qac hS (by kernel_rfl) ?_);conv => whnf)
 have eV:AV.str [110,101,118,101,114] = .str (lnW qbv V) :=by rw [hV0];rfl
 have eR:AV.lst [.str ((((((([114,117,108,101,32] ++ dec a) ++ [32]) ++ dec b) ++ [32]) ++ dec c) ++ [32]) ++ qcb s),.str [110,101,118,101,114]] 2 (.ch 24) = .lst (rwS (a,b,c,s) V T) (T.length + 2) (.ch 24) :=by
  rw [qn0,AV.str.inj eV,hT0];rfl
 refine qao hE hS ?_
 conv => whnf
 repeat ((first|refine qac hS (by kernel_rfl) ?_);conv => whnf)
 refine qar hE hS (A :=Nat) [] (fun i => [(5,.lst (rwS (a,b,c,s) V T) (T.length + 2) (.ch 24)),(11,.str (ouB (lnsT (a,b,c,s) V T) i)),(12,nv (ckN (lnsT (a,b,c,s) V T) i)),(13,nv i)]) (fun _ => []) (fun _ => []) (fun i => i ≤ T.length + 2) (fun i => T.length + 2 - i) 0 (kle rfl) rfl (by refine ⟨rfl,rfl,rfl,rfl,rfl,rfl,25,rfl,?_,?_⟩ <;> repeat' (first|exact trivial|exact rfl|exact wkr rfl|exact wko rfl|exact Nat.zero_le _|exact ⟨_,rfl,WkV.eq eR⟩|exact qak lT|exact qak lV|exact qas (qcc _ _ _) (by decide)|exact kle rfl|exact bdq|exact mxI rfl|exact mxS rfl|apply And.intro)) (Nat.zero_le _) ?_
 intro i hi K hK
 obtain rfl:K = 25 :=hK
 conv => whnf
 by_cases hi2:i < T.length + 2
 ·have hi1:IntKind.i64.wrap (Int.ofNat i + 1) = Int.ofNat (i + 1) :=qav (m :=i + 1) (by omega)
  have hs :=sW i
  have gr :=qjv (a,b,c,s) V T hi2
  have hw :=qdt sW i (by omega)
  repeat ((first|refine qaf (nthP gr) ?_|refine qah (qae hi2) ?_|refine qag (qae hi2) ?_|refine pkT (qae hi2) ?_|refine qaa (qae hi2) ?_|refine qam (qae hi2) ?_|refine qan (qae hi2) ?_|refine pkF (qae hi2) ?_|refine qab (qae hi2) ?_|refine qah (qai hi2) ?_|refine qag (qai hi2) ?_|refine pkT (qai hi2) ?_|refine qaa (qai hi2) ?_|refine qac hS (by kernel_rfl) ?_);conv => whnf)
  refine qar hE hS (A :=Nat) [5,11,13] (fun k => [(12,nv (ckN (lnsT (a,b,c,s) V T) i + ckL (gB (lnsT (a,b,c,s) V T) i) i k)),(14,nv k)]) (fun _ => []) (fun _ => []) (fun k => k ≤ (gB (lnsT (a,b,c,s) V T) i).length) (fun k => (gB (lnsT (a,b,c,s) V T) i).length - k) 0 (kle rfl) rfl (by refine ⟨rfl,rfl,rfl,rfl,rfl,rfl,25,rfl,?_,?_⟩ <;> repeat' (first|exact trivial|exact rfl|exact wkr rfl|exact wko rfl|exact Nat.zero_le _|exact qak lT|exact qak lV|exact qas (qcc _ _ _) (by decide)|exact kle rfl|exact bdq|exact mxI rfl|exact mxS rfl|apply And.intro)) (Nat.zero_le _) ?_
  intro k hk K hK
  obtain rfl:K = 25 :=hK
  conv => whnf
  by_cases hk2:k < (gB (lnsT (a,b,c,s) V T) i).length
  ·have hk1:IntKind.i64.wrap (Int.ofNat k + 1) = Int.ofNat (k + 1) :=qav (m :=k + 1) (by omega)
   have hc :=qdu (s :=gB (lnsT (a,b,c,s) V T) i) (i :=i) (k :=k) (by omega) (by omega)
   have hb:((gB (lnsT (a,b,c,s) V T) i).getD k 0).toNat ≤ 256 :=Nat.le_of_lt (UInt8.toNat_lt _)
   have ew:_ = Int.ofNat (ckN (lnsT (a,b,c,s) V T) i + ckL (gB (lnsT (a,b,c,s) V T) i) i (k + 1)) :=(qdf (c :=ckN (lnsT (a,b,c,s) V T) i + ckL (gB (lnsT (a,b,c,s) V T) i) i k) (by omega) hb (show k ≤ 4000 by omega) (show i < 1000 by omega)).trans (by rw [ckL,Nat.add_assoc])
   repeat ((first|refine qaf (nthP gr) ?_|refine qaf (qch hk2) ?_|refine qah (qae hi2) ?_|refine qag (qae hi2) ?_|refine pkT (qae hi2) ?_|refine qaa (qae hi2) ?_|refine qam (qae hi2) ?_|refine qan (qae hi2) ?_|refine pkF (qae hi2) ?_|refine qab (qae hi2) ?_|refine qah (qai hi2) ?_|refine qag (qai hi2) ?_|refine pkT (qai hi2) ?_|refine qaa (qai hi2) ?_|refine qah (qae hk2) ?_|refine qag (qae hk2) ?_|refine pkT (qae hk2) ?_|refine qaa (qae hk2) ?_|refine qam (qae hk2) ?_|refine qan (qae hk2) ?_|refine pkF (qae hk2) ?_|refine qab (qae hk2) ?_|refine qah (qai hk2) ?_|refine qag (qai hk2) ?_|refine pkT (qai hk2) ?_|refine qaa (qai hk2) ?_|refine qac hS (by kernel_rfl) ?_);conv => whnf)
   exact ⟨k + 1,hk2,by omega,Nat.le_refl _,(by refine ⟨rfl,rfl,rfl,rfl,rfl,rfl,25,rfl,?_,?_⟩ <;> repeat' (first|exact trivial|exact rfl|exact wkr rfl|exact wko rfl|exact Nat.zero_le _|exact ⟨_,rfl,WkV.int hk1⟩|exact ⟨_,rfl,WkV.int ew⟩|exact qak lT|exact qak lV|exact qas (qcc _ _ _) (by decide)|exact kle rfl|exact bdq|exact mxI rfl|exact mxS rfl|apply And.intro))⟩
  ·have hkE:k = (gB (lnsT (a,b,c,s) V T) i).length :=by omega
   have o1 :=qb6 sW i
   have o2 :=qa0 o1 hs
   have o3 :=qa0 o2 (Nat.le_refl ([10]:List UInt8).length)
   have o4:(ouB (lnsT (a,b,c,s) V T) i ++ gB (lnsT (a,b,c,s) V T) i).length ≤ 100000000 :=by omega
   have o5:((ouB (lnsT (a,b,c,s) V T) i ++ gB (lnsT (a,b,c,s) V T) i) ++ [10]).length ≤ 100000000 :=by simp only [List.length_cons,List.length_nil] at o3;omega
   have eO:AV.str ((ouB (lnsT (a,b,c,s) V T) i ++ gB (lnsT (a,b,c,s) V T) i) ++ [10]) = .str (ouB (lnsT (a,b,c,s) V T) (i + 1)) :=by rw [ouB,List.append_assoc]
   have hkf:decide (Int.ofNat k < Int.ofNat (gB (lnsT (a,b,c,s) V T) i).length) = false :=qa9 hk2
   repeat ((first|refine qaf (nthP gr) ?_|refine qah (qae hi2) ?_|refine qag (qae hi2) ?_|refine pkT (qae hi2) ?_|refine qaa (qae hi2) ?_|refine qam (qae hi2) ?_|refine qan (qae hi2) ?_|refine pkF (qae hi2) ?_|refine qab (qae hi2) ?_|refine qah (qai hi2) ?_|refine qag (qai hi2) ?_|refine pkT (qai hi2) ?_|refine qaa (qai hi2) ?_|refine qam hkf ?_|refine qan hkf ?_|refine pkF hkf ?_|refine qab hkf ?_|refine qac hS (by kernel_rfl) ?_);conv => whnf)
   refine .inl ?_
   conv => whnf
   repeat ((first|refine qaf (nthP gr) ?_|refine qah (qai hi2) ?_|refine qag (qai hi2) ?_|refine pkT (qai hi2) ?_|refine qaa (qai hi2) ?_|refine qah (qaj o4) ?_|refine qag (qaj o4) ?_|refine pkT (qaj o4) ?_|refine qaa (qaj o4) ?_|refine qam (qaj o4) ?_|refine qan (qaj o4) ?_|refine pkF (qaj o4) ?_|refine qab (qaj o4) ?_|refine qah (qaj o5) ?_|refine qag (qaj o5) ?_|refine pkT (qaj o5) ?_|refine qaa (qaj o5) ?_|refine qam (qaj o5) ?_|refine qan (qaj o5) ?_|refine pkF (qaj o5) ?_|refine qab (qaj o5) ?_|refine qac hS (by kernel_rfl) ?_);conv => whnf)
   exact ⟨i + 1,hi2,by omega,Nat.le_refl _,(by refine ⟨rfl,rfl,rfl,rfl,rfl,rfl,25,rfl,?_,?_⟩ <;> repeat' (first|exact trivial|exact rfl|exact wkr rfl|exact wko rfl|exact Nat.zero_le _|exact ⟨_,rfl,WkV.int hi1⟩|exact ⟨_,rfl,WkV.eq eO⟩|exact ⟨_,rfl,WkV.int (show Int.ofNat (ckN (lnsT (a,b,c,s) V T) i + ckL (gB (lnsT (a,b,c,s) V T) i) i k) = Int.ofNat (ckN (lnsT (a,b,c,s) V T) (i + 1)) by rw [ckN,hkE])⟩|exact qak lT|exact qak lV|exact qas (qcc _ _ _) (by decide)|exact kle rfl|exact bdq|exact mxI rfl|exact mxS rfl|apply And.intro))⟩
 have hiE2:i = (lnsT (a,b,c,s) V T).length :=by rw [qcf];omega
 have t :=qd6 (ckN (lnsT (a,b,c,s) V T) i)
 have hm :=Nat.mod_lt (ckN (lnsT (a,b,c,s) V T) i) (show 0 < 109 by decide)
 have p1 :=rdW t.1 (by omega)
 have p2 :=rdW t.2.1 (by omega)
 have p3 :=rdW t.2.2 (by omega)
 have o1 :=qb6 sW i
 have o2:(ouB (lnsT (a,b,c,s) V T) i ++ [101,110,100,32]).length ≤ 5000000 :=by rw [List.length_append];show _ + 4 ≤ _;omega
 have o3 :=qa0 o2 (qbb (ckN (lnsT (a,b,c,s) V T) i % 109 / 100))
 have o4 :=qa0 o3 (qbb (ckN (lnsT (a,b,c,s) V T) i % 109 / 10 % 10))
 have o5 :=qa0 o4 (qbb (ckN (lnsT (a,b,c,s) V T) i % 109 % 10))
 have o6 :=qa0 o5 (Nat.le_refl ([10]:List UInt8).length)
 refine qab (qa9 hi2) ?_
 conv => whnf
 refine .inl ?_
 conv => whnf
 repeat ((first|refine qah (qaj (milB o2 rfl)) ?_|refine qag (qaj (milB o2 rfl)) ?_|refine pkT (qaj (milB o2 rfl)) ?_|refine qaa (qaj (milB o2 rfl)) ?_|refine qam (qaj (milB o2 rfl)) ?_|refine qan (qaj (milB o2 rfl)) ?_|refine pkF (qaj (milB o2 rfl)) ?_|refine qab (qaj (milB o2 rfl)) ?_|refine qah (qaj (milB o3 rfl)) ?_|refine qag (qaj (milB o3 rfl)) ?_|refine pkT (qaj (milB o3 rfl)) ?_|refine qaa (qaj (milB o3 rfl)) ?_|refine qam (qaj (milB o3 rfl)) ?_|refine qan (qaj (milB o3 rfl)) ?_|refine pkF (qaj (milB o3 rfl)) ?_|refine qab (qaj (milB o3 rfl)) ?_|refine qah (qaj (milB o4 rfl)) ?_|refine qag (qaj (milB o4 rfl)) ?_|refine pkT (qaj (milB o4 rfl)) ?_|refine qaa (qaj (milB o4 rfl)) ?_|refine qam (qaj (milB o4 rfl)) ?_|refine qan (qaj (milB o4 rfl)) ?_|refine pkF (qaj (milB o4 rfl)) ?_|refine qab (qaj (milB o4 rfl)) ?_|refine qah (qaj (milB o5 rfl)) ?_|refine qag (qaj (milB o5 rfl)) ?_|refine pkT (qaj (milB o5 rfl)) ?_|refine qaa (qaj (milB o5 rfl)) ?_|refine qam (qaj (milB o5 rfl)) ?_|refine qan (qaj (milB o5 rfl)) ?_|refine pkF (qaj (milB o5 rfl)) ?_|refine qab (qaj (milB o5 rfl)) ?_|refine qah (qaj (milB o6 rfl)) ?_|refine qag (qaj (milB o6 rfl)) ?_|refine pkT (qaj (milB o6 rfl)) ?_|refine qaa (qaj (milB o6 rfl)) ?_|refine qam (qaj (milB o6 rfl)) ?_|refine qan (qaj (milB o6 rfl)) ?_|refine pkF (qaj (milB o6 rfl)) ?_|refine qab (qaj (milB o6 rfl)) ?_|refine qad hC (p1) ?_|refine qad hC (p2) ?_|refine qad hC (p3) ?_|refine qac hS (by kernel_rfl) ?_);conv => whnf)
 exact ⟨_,rfl,wk_s (by unfold prtT finB;rw [← hiE2])⟩
theorem qhb {r:TrR} {N X:AV} {V:List Nat} {T:List (List (Nat × Nat))} (hN:IL N (zl V)) (hX:TQ X T) (o:okR r V T) (hw:ShW r V T):Pure prog 13 [.agg [nv r.1,nv r.2.1,nv r.2.2.1,nv r.2.2.2,N],X] (.str (prtT r V T)) :=by
 obtain ⟨a,b,c,s⟩ :=r
 rcases hN with ⟨rfl,e⟩ | rfl <;> rcases hX with ⟨rfl,e2⟩ | rfl
 ·exact qsy (List.map_eq_nil_iff.1 e) e2 o hw
 ·exact qsz (List.map_eq_nil_iff.1 e) o hw
 ·exact qs0 e2 o hw
 ·exact qs1 o hw
end
end Go.Abs.Seat
