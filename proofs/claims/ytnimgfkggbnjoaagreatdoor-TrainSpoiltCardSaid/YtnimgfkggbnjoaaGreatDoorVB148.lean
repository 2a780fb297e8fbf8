/-
  Rules and lists of trains that are the same; short lists.
-/
import Derived.Test.YtnimgfkggbnjoaaGreatDoorVU14
import Derived.Test.YtnimgfkggbnjoaaGreatDoorVU10
namespace Go.Abs.Seat
noncomputable section
open Go Go.Abs Go.Proofs.Tryz
set_option maxRecDepth 100000
set_option maxHeartbeats 40000000
attribute [local irreducible] IntKind.wrap pEq
theorem qtn {L:List Int} (hl:L.length < 4611686018427387904):Pure prog 30 [nl L,nl L] (.bool true) :=by
 have lL :=qa5 L
 have c0:((L.length:Int) != (L.length:Int)) = false :=by rw [bne_self_eq_false]
 refine qap hE rfl (by repeat' first|exact trivial|assumption|exact qal _|exact fun _ h => nomatch h|apply And.intro) (by repeat' first|exact trivial|assumption|exact qal _|exact fun _ h => nomatch h|apply And.intro) fun S q pc hS hq hC hE => ?_
 conv => whnf
 repeat ((first|refine qam c0 ?_|refine qan c0 ?_|refine pkF c0 ?_|refine qab c0 ?_|refine qac hS (by kernel_rfl) ?_);conv => whnf)
 refine qar hE hS (A :=Nat) [0,1] (fun i => [(5,nv i)]) (fun _ => []) (fun _ => []) (fun i => i ≤ L.length) (fun i => L.length - i) 0 (kle rfl) rfl (by refine ⟨rfl,rfl,rfl,rfl,rfl,rfl,0,rfl,?_,?_⟩ <;> repeat' (first|exact trivial|exact rfl|exact wkr rfl|exact wko rfl|exact Nat.zero_le _|exact kle rfl|exact bdq|exact mxI rfl|exact mxS rfl|apply And.intro)) (Nat.zero_le _) ?_
 intro i hi K hK
 obtain rfl:K = 0 :=hK
 conv => whnf
 by_cases hi2:i < L.length
 ·have hi1:IntKind.i64.wrap (Int.ofNat i + 1) = Int.ofNat (i + 1) :=qav (m :=i + 1) (by omega)
  have c1:(gi L i != gi L i) = false :=by rw [bne_self_eq_false]
  repeat ((first|refine qaf (nthP (qaw (l :=L) (i :=i) hi2)) ?_|refine qah (qae hi2) ?_|refine qag (qae hi2) ?_|refine pkT (qae hi2) ?_|refine qaa (qae hi2) ?_|refine qam (qae hi2) ?_|refine qan (qae hi2) ?_|refine pkF (qae hi2) ?_|refine qab (qae hi2) ?_|refine qah (qai hi2) ?_|refine qag (qai hi2) ?_|refine pkT (qai hi2) ?_|refine qaa (qai hi2) ?_|refine qam c1 ?_|refine qan c1 ?_|refine pkF c1 ?_|refine qab c1 ?_|refine qac hS (by kernel_rfl) ?_);conv => whnf)
  exact ⟨i + 1,hi2,by omega,kle rfl,(by refine ⟨rfl,rfl,rfl,rfl,rfl,rfl,0,rfl,?_,?_⟩ <;> repeat' (first|exact trivial|exact rfl|exact wkr rfl|exact wko rfl|exact Nat.zero_le _|exact ⟨_,rfl,WkV.int hi1⟩|exact kle rfl|exact bdq|exact mxI rfl|exact mxS rfl|apply And.intro))⟩
 ·refine qab (qa9 hi2) ?_
  conv => whnf
  refine .inl ?_
  conv => whnf
  exact ⟨_,rfl,Wk.refl _⟩
theorem qqi:Pure prog 30 [.nils,.nils] (.bool true) :=by
 refine qap hE rfl (by repeat' first|exact trivial|assumption|exact qal _|exact fun _ h => nomatch h|apply And.intro) (by repeat' first|exact trivial|assumption|exact qal _|exact fun _ h => nomatch h|apply And.intro) fun S q pc hS hq hC hE => ?_
 conv => whnf
 refine qao hE hS ?_
 conv => whnf
 exact ⟨_,rfl,Wk.refl _⟩
theorem qox {A B:AV} {L:List Int} (hA:IL A L) (hB:IL B L) (hl:L.length < 4611686018427387904):Pure prog 30 [A,B] (.bool true) :=by
 rcases hA with ⟨rfl,e⟩ | rfl <;> rcases hB with ⟨rfl,e2⟩ | rfl
 ·exact qqi
 ·subst e
  refine qap hE rfl (by repeat' first|exact trivial|assumption|exact qal _|exact fun _ h => nomatch h|apply And.intro) (by repeat' first|exact trivial|assumption|exact qal _|exact fun _ h => nomatch h|apply And.intro) fun S q pc hS hq hC hE => ?_
  conv => whnf
  refine qao hE hS ?_
  conv => whnf
  exact ⟨_,rfl,Wk.refl _⟩
 ·subst e2
  refine qap hE rfl (by repeat' first|exact trivial|assumption|exact qal _|exact fun _ h => nomatch h|apply And.intro) (by repeat' first|exact trivial|assumption|exact qal _|exact fun _ h => nomatch h|apply And.intro) fun S q pc hS hq hC hE => ?_
  conv => whnf
  refine qao hE hS ?_
  conv => whnf
  exact ⟨_,rfl,Wk.refl _⟩
 ·exact qtn hl
theorem qik {r:TrR} {A B:AV} {V:List Nat} (hA:IL A (zl V)) (hB:IL B (zl V)) (hl:V.length ≤ 1000):Pure prog 14 [rv r.1 r.2.1 r.2.2.1 r.2.2.2 A,rv r.1 r.2.1 r.2.2.1 r.2.2.2 B] (.bool true) :=by
 have p :=qox hA hB (by rw [qbe];omega)
 have lA :=hA.no
 have lB :=hB.no
 have t1:((r.1:Int) == (r.1:Int)) = true :=beq_self_eq_true _
 have t2:((r.2.1:Int) == (r.2.1:Int)) = true :=beq_self_eq_true _
 have t3:((r.2.2.1:Int) == (r.2.2.1:Int)) = true :=beq_self_eq_true _
 have t4:((r.2.2.2:Int) == (r.2.2.2:Int)) = true :=beq_self_eq_true _
 rcases hA with ⟨rfl,_⟩ | rfl <;> rcases hB with ⟨rfl,_⟩ | rfl
 all_goals
  refine qap hE rfl (by repeat' first|exact trivial|assumption|exact qal _|exact fun _ h => nomatch h|apply And.intro) (by repeat' first|exact trivial|assumption|exact qal _|exact fun _ h => nomatch h|apply And.intro) fun S q pc hS hq hC hE => ?_
  conv => whnf
  repeat ((first|refine qah t1 ?_|refine qag t1 ?_|refine pkT t1 ?_|refine qaa t1 ?_|refine qah (qa1 t1) ?_|refine qag (qa1 t1) ?_|refine pkT (qa1 t1) ?_|refine qaa (qa1 t1) ?_|refine qah t2 ?_|refine qag t2 ?_|refine pkT t2 ?_|refine qaa t2 ?_|refine qah (qa1 t2) ?_|refine qag (qa1 t2) ?_|refine pkT (qa1 t2) ?_|refine qaa (qa1 t2) ?_|refine qah t3 ?_|refine qag t3 ?_|refine pkT t3 ?_|refine qaa t3 ?_|refine qah (qa1 t3) ?_|refine qag (qa1 t3) ?_|refine pkT (qa1 t3) ?_|refine qaa (qa1 t3) ?_|refine qah t4 ?_|refine qag t4 ?_|refine pkT t4 ?_|refine qaa t4 ?_|refine qah (qa1 t4) ?_|refine qag (qa1 t4) ?_|refine pkT (qa1 t4) ?_|refine qaa (qa1 t4) ?_|refine qad hC (p) ?_|refine qac hS (by kernel_rfl) ?_);conv => whnf)
  exact ⟨_,rfl,Wk.refl _⟩
theorem qdk:Pure prog 14 [zrR,zrR] (.bool true) :=by
 refine qap hE rfl (by repeat' first|exact trivial|assumption|exact qal _|exact fun _ h => nomatch h|apply And.intro) (by repeat' first|exact trivial|assumption|exact qal _|exact fun _ h => nomatch h|apply And.intro) fun S q pc hS hq hC hE => ?_
 conv => whnf
 repeat ((first|refine qad hC (qqi) ?_|refine qac hS (by kernel_rfl) ?_);conv => whnf)
 exact ⟨_,rfl,Wk.refl _⟩
theorem qow:Pure prog 31 [.nils,.nils] (.bool true) :=by
 refine qap hE rfl (by repeat' first|exact trivial|assumption|exact qal _|exact fun _ h => nomatch h|apply And.intro) (by repeat' first|exact trivial|assumption|exact qal _|exact fun _ h => nomatch h|apply And.intro) fun S q pc hS hq hC hE => ?_
 conv => whnf
 refine qao hE hS ?_
 conv => whnf
 exact ⟨_,rfl,Wk.refl _⟩
theorem qov (t:List (Nat × Nat)) (ht:t.length < 4611686018427387904):Pure prog 31 [xqV t,xqV t] (.bool true) :=by
 by_cases h:t = []
 ·rw [xqV,if_pos h];exact qow
 ·rw [xqV,if_neg h]
  have k :=qo0 t t ht
  rwa [decide_eq_true rfl] at k
theorem qto {T:List (List (Nat × Nat))} (hl:T.length < 4611686018427387904) (ht:∀ t,t ∈ T → t.length < 4611686018427387904):Pure prog 15 [.lst (xqs T) T.length .no,.lst (xqs T) T.length .no] (.bool true) :=by
 have lT :=qcw T
 have c0:((T.length:Int) != (T.length:Int)) = false :=by rw [bne_self_eq_false]
 refine qap hE rfl (by repeat' first|exact trivial|assumption|exact qal _|exact fun _ h => nomatch h|apply And.intro) (by repeat' first|exact trivial|assumption|exact qal _|exact fun _ h => nomatch h|apply And.intro) fun S q pc hS hq hC hE => ?_
 conv => whnf
 repeat ((first|refine qam c0 ?_|refine qan c0 ?_|refine pkF c0 ?_|refine qab c0 ?_|refine qac hS (by kernel_rfl) ?_);conv => whnf)
 refine qar hE hS (A :=Nat) [0,1] (fun i => [(5,nv i)]) (fun _ => []) (fun _ => []) (fun i => i ≤ T.length) (fun i => T.length - i) 0 (kle rfl) rfl (by refine ⟨rfl,rfl,rfl,rfl,rfl,rfl,0,rfl,?_,?_⟩ <;> repeat' (first|exact trivial|exact rfl|exact wkr rfl|exact wko rfl|exact Nat.zero_le _|exact kle rfl|exact bdq|exact mxI rfl|exact mxS rfl|apply And.intro)) (Nat.zero_le _) ?_
 intro i hi K hK
 obtain rfl:K = 0 :=hK
 conv => whnf
 by_cases hi2:i < T.length
 ·have hi1:IntKind.i64.wrap (Int.ofNat i + 1) = Int.ofNat (i + 1) :=qav (m :=i + 1) (by omega)
  have gx :=qfm T hi2
  have p :=qov (gT T i) (ht _ (qgo hi2))
  refine Or.elim (qg9 (gT T i)) (fun hy => ?_) fun hy => Exists.elim hy fun l hy => ?_
  all_goals
   rw [hy] at gx p
   repeat ((first|refine qaf (nthP gx) ?_|refine qah (qae hi2) ?_|refine qag (qae hi2) ?_|refine pkT (qae hi2) ?_|refine qaa (qae hi2) ?_|refine qam (qae hi2) ?_|refine qan (qae hi2) ?_|refine pkF (qae hi2) ?_|refine qab (qae hi2) ?_|refine qah (qai hi2) ?_|refine qag (qai hi2) ?_|refine pkT (qai hi2) ?_|refine qaa (qai hi2) ?_|refine qad hC (p) ?_|refine qac hS (by kernel_rfl) ?_);conv => whnf)
   exact ⟨i + 1,hi2,by omega,kle rfl,(by refine ⟨rfl,rfl,rfl,rfl,rfl,rfl,0,rfl,?_,?_⟩ <;> repeat' (first|exact trivial|exact rfl|exact wkr rfl|exact wko rfl|exact Nat.zero_le _|exact ⟨_,rfl,WkV.int hi1⟩|exact kle rfl|exact bdq|exact mxI rfl|exact mxS rfl|apply And.intro))⟩
 ·refine qab (qa9 hi2) ?_
  conv => whnf
  refine .inl ?_
  conv => whnf
  exact ⟨_,rfl,Wk.refl _⟩
theorem qil {X Y:AV} {T:List (List (Nat × Nat))} (hX:TQ X T) (hY:TQ Y T) (hl:T.length < 4611686018427387904) (ht:∀ t,t ∈ T → t.length < 4611686018427387904):Pure prog 15 [X,Y] (.bool true) :=by
 rcases hX with ⟨rfl,e⟩ | rfl <;> rcases hY with ⟨rfl,e2⟩ | rfl
 ·refine qap hE rfl (by repeat' first|exact trivial|assumption|exact qal _|exact fun _ h => nomatch h|apply And.intro) (by repeat' first|exact trivial|assumption|exact qal _|exact fun _ h => nomatch h|apply And.intro) fun S q pc hS hq hC hE => ?_
  conv => whnf
  refine qao hE hS ?_
  conv => whnf
  exact ⟨_,rfl,Wk.refl _⟩
 ·subst e
  refine qap hE rfl (by repeat' first|exact trivial|assumption|exact qal _|exact fun _ h => nomatch h|apply And.intro) (by repeat' first|exact trivial|assumption|exact qal _|exact fun _ h => nomatch h|apply And.intro) fun S q pc hS hq hC hE => ?_
  conv => whnf
  refine qao hE hS ?_
  conv => whnf
  exact ⟨_,rfl,Wk.refl _⟩
 ·subst e2
  refine qap hE rfl (by repeat' first|exact trivial|assumption|exact qal _|exact fun _ h => nomatch h|apply And.intro) (by repeat' first|exact trivial|assumption|exact qal _|exact fun _ h => nomatch h|apply And.intro) fun S q pc hS hq hC hE => ?_
  conv => whnf
  refine qao hE hS ?_
  conv => whnf
  exact ⟨_,rfl,Wk.refl _⟩
 ·exact qto hl ht
theorem qpx (T:List (List (Nat × Nat))):TQ (xqT T) T :=by
 unfold xqT
 split
 ·rename_i e;exact .inl ⟨rfl,e⟩
 ·exact .inr rfl
theorem qwh (n:Nat):Pure prog 6 [iv (n:Int)] (.bool (decide (n ≤ 8))) :=by
 by_cases h:n ≤ 8
 ·have c:decide ((n:Int) ≤ 8) = true :=decide_eq_true (by omega)
  rw [decide_eq_true h]
  refine qap hE rfl (by repeat' first|exact trivial|assumption|exact qal _|exact fun _ h => nomatch h|apply And.intro) (by repeat' first|exact trivial|assumption|exact qal _|exact fun _ h => nomatch h|apply And.intro) fun S q pc hS hq hC hE => ?_
  conv => whnf
  exact ⟨_,rfl,wkb c⟩
 ·have c:decide ((n:Int) ≤ 8) = false :=decide_eq_false (by omega)
  rw [decide_eq_false h]
  refine qap hE rfl (by repeat' first|exact trivial|assumption|exact qal _|exact fun _ h => nomatch h|apply And.intro) (by repeat' first|exact trivial|assumption|exact qal _|exact fun _ h => nomatch h|apply And.intro) fun S q pc hS hq hC hE => ?_
  conv => whnf
  exact ⟨_,rfl,wkb c⟩
def qko (Ls:List (List (Int × Int))):Prop :=Ls.length ≤ 8 ∧ ∀ i,i < Ls.length → (gLs Ls i).length ≤ 8
theorem qez {n:Nat} (h:n ≤ 8):Pure prog 6 [iv (n:Int)] (.bool true) :=by have k :=qwh n;rwa [decide_eq_true h] at k
theorem qlq {n:Nat} (h:¬ n ≤ 8):Pure prog 6 [iv (n:Int)] (.bool false) :=by have k :=qwh n;rwa [decide_eq_false h] at k
theorem PZ.lenV {v:AV} {L:List (Int × Int)} (h:PZ v L):(v = .nils ∧ L.length = 0) ∨ (v = .gp 0 0 ∧ L.length = 0) ∨ v = pv L :=by
 rcases h with (⟨rfl,rfl⟩ | rfl) | ⟨rfl,rfl⟩
 ·exact .inl ⟨rfl,rfl⟩
 ·exact .inr (.inr rfl)
 ·exact .inr (.inl ⟨rfl,rfl⟩)
theorem qht {X:AV} {Ls:List (List (Int × Int))} (h:XQ X Ls) {b:Bool} (hb:b = true ↔ qko Ls):Pure prog 7 [X] (.bool b) :=by
 rcases h with ⟨rfl,rfl⟩ | ⟨vs,h,rfl⟩
 ·rw [hb.2 ⟨Nat.zero_le _,fun i hi => absurd hi (Nat.not_lt_zero _)⟩]
  refine qap hE rfl (by repeat' first|exact trivial|assumption|exact qal _|exact fun _ h => nomatch h|apply And.intro) (by repeat' first|exact trivial|assumption|exact qal _|exact fun _ h => nomatch h|apply And.intro) fun S q pc hS hq hC hE => ?_
  conv => whnf
  refine qao hE hS ?_
  conv => whnf
  repeat ((first|refine qad hC (qez (Nat.zero_le 8)) ?_|refine qac hS (by kernel_rfl) ?_);conv => whnf)
  exact ⟨_,rfl,Wk.refl _⟩
 ·have lv :=h.no
  have pE :=qwh Ls.length
  refine qap hE rfl (by repeat' first|exact trivial|assumption|exact qal _|exact fun _ h => nomatch h|apply And.intro) (by repeat' first|exact trivial|assumption|exact qal _|exact fun _ h => nomatch h|apply And.intro) fun S q pc hS hq hC hE => ?_
  conv => whnf
  refine qar hE hS (A :=Nat) [0] (fun i => [(3,nv i)]) (fun _ => []) (fun _ => []) (fun i => i ≤ Ls.length ∧ i ≤ 8 ∧ ∀ j,j < i → (gLs Ls j).length ≤ 8) (fun i => Ls.length - i) 0 (kle rfl) rfl (by refine ⟨rfl,rfl,rfl,rfl,rfl,rfl,0,rfl,?_,?_⟩ <;> repeat' (first|exact trivial|exact rfl|exact wkr rfl|exact wko rfl|exact Nat.zero_le _|exact kle rfl|exact bdq|exact mxI rfl|exact mxS rfl|apply And.intro)) ⟨Nat.zero_le _,Nat.zero_le _,fun _ h => absurd h (Nat.not_lt_zero _)⟩ ?_
  intro i ⟨hi,hi8,hA⟩ K hK
  obtain rfl:K = 0 :=hK
  conv => whnf
  by_cases hi2:i < Ls.length
  ·have t1:decide (Int.ofNat i < (Ls.length:Int)) = true :=qae hi2
   by_cases hi3:i < 8
   ·have t2:decide (Int.ofNat i < 8) = true :=qae hi3
    have hi1:IntKind.i64.wrap (Int.ofNat i + 1) = Int.ofNat (i + 1) :=qav (m :=i + 1) (by omega)
    refine Exists.elim (h.nth hi2) fun v hv => ?_
    have gx :=hv.1
    refine Or.elim hv.2.lenV (fun hp => ?_) fun hp => Or.elim hp (fun hp => ?_) fun hp => ?_
    ·rw [hp.1] at gx
     have hlen :=hp.2
     repeat ((first|refine qaf (nthP gx) ?_|refine qah t1 ?_|refine qag t1 ?_|refine pkT t1 ?_|refine qaa t1 ?_|refine qah (qa1 t1) ?_|refine qag (qa1 t1) ?_|refine pkT (qa1 t1) ?_|refine qaa (qa1 t1) ?_|refine qah t2 ?_|refine qag t2 ?_|refine pkT t2 ?_|refine qaa t2 ?_|refine qah (qai hi2) ?_|refine qag (qai hi2) ?_|refine pkT (qai hi2) ?_|refine qaa (qai hi2) ?_|refine qad hC (qez (Nat.zero_le 8)) ?_|refine qac hS (by kernel_rfl) ?_);conv => whnf)
     exact ⟨i + 1,⟨hi2,hi3,fun j hj => (Nat.lt_succ_iff_lt_or_eq.1 hj).elim (hA j) fun e => by rw [e];omega⟩,by omega,Nat.le_refl _,(by refine ⟨rfl,rfl,rfl,rfl,rfl,rfl,0,rfl,?_,?_⟩ <;> repeat' (first|exact trivial|exact rfl|exact wkr rfl|exact wko rfl|exact Nat.zero_le _|exact ⟨_,rfl,WkV.int hi1⟩|exact kle rfl|exact bdq|exact mxI rfl|exact mxS rfl|apply And.intro))⟩
    ·rw [hp.1] at gx
     have hlen :=hp.2
     repeat ((first|refine qaf (nthP gx) ?_|refine qah t1 ?_|refine qag t1 ?_|refine pkT t1 ?_|refine qaa t1 ?_|refine qah (qa1 t1) ?_|refine qag (qa1 t1) ?_|refine pkT (qa1 t1) ?_|refine qaa (qa1 t1) ?_|refine qah t2 ?_|refine qag t2 ?_|refine pkT t2 ?_|refine qaa t2 ?_|refine qah (qai hi2) ?_|refine qag (qai hi2) ?_|refine pkT (qai hi2) ?_|refine qaa (qai hi2) ?_|refine qad hC (qez (Nat.zero_le 8)) ?_|refine qac hS (by kernel_rfl) ?_);conv => whnf)
     exact ⟨i + 1,⟨hi2,hi3,fun j hj => (Nat.lt_succ_iff_lt_or_eq.1 hj).elim (hA j) fun e => by rw [e];omega⟩,by omega,Nat.le_refl _,(by refine ⟨rfl,rfl,rfl,rfl,rfl,rfl,0,rfl,?_,?_⟩ <;> repeat' (first|exact trivial|exact rfl|exact wkr rfl|exact wko rfl|exact Nat.zero_le _|exact ⟨_,rfl,WkV.int hi1⟩|exact kle rfl|exact bdq|exact mxI rfl|exact mxS rfl|apply And.intro))⟩
    ·rw [hp] at gx
     by_cases h8:(gLs Ls i).length ≤ 8
     ·repeat ((first|refine qaf (nthP gx) ?_|refine qah t1 ?_|refine qag t1 ?_|refine pkT t1 ?_|refine qaa t1 ?_|refine qah (qa1 t1) ?_|refine qag (qa1 t1) ?_|refine pkT (qa1 t1) ?_|refine qaa (qa1 t1) ?_|refine qah t2 ?_|refine qag t2 ?_|refine pkT t2 ?_|refine qaa t2 ?_|refine qah (qai hi2) ?_|refine qag (qai hi2) ?_|refine pkT (qai hi2) ?_|refine qaa (qai hi2) ?_|refine qad hC (qez h8) ?_|refine qac hS (by kernel_rfl) ?_);conv => whnf)
      exact ⟨i + 1,⟨hi2,hi3,fun j hj => (Nat.lt_succ_iff_lt_or_eq.1 hj).elim (hA j) fun e => by rw [e];exact h8⟩,by omega,Nat.le_refl _,(by refine ⟨rfl,rfl,rfl,rfl,rfl,rfl,0,rfl,?_,?_⟩ <;> repeat' (first|exact trivial|exact rfl|exact wkr rfl|exact wko rfl|exact Nat.zero_le _|exact ⟨_,rfl,WkV.int hi1⟩|exact kle rfl|exact bdq|exact mxI rfl|exact mxS rfl|apply And.intro))⟩
     ·have hz:b = false :=Bool.eq_false_iff.2 fun e => h8 ((hb.1 e).2 i hi2)
      repeat ((first|refine qaf (nthP gx) ?_|refine qah t1 ?_|refine qag t1 ?_|refine pkT t1 ?_|refine qaa t1 ?_|refine qah (qa1 t1) ?_|refine qag (qa1 t1) ?_|refine pkT (qa1 t1) ?_|refine qaa (qa1 t1) ?_|refine qah t2 ?_|refine qag t2 ?_|refine pkT t2 ?_|refine qaa t2 ?_|refine qah (qai hi2) ?_|refine qag (qai hi2) ?_|refine pkT (qai hi2) ?_|refine qaa (qai hi2) ?_|refine qad hC (qlq h8) ?_|refine qac hS (by kernel_rfl) ?_);conv => whnf)
      exact ⟨_,rfl,wkb hz.symm⟩
   ·have t2:decide (Int.ofNat i < 8) = false :=qa9 hi3
    have hz:decide (Ls.length ≤ 8) = b :=by
     rw [Bool.eq_iff_iff,decide_eq_true_eq,hb]
     exact ⟨fun z => ⟨z,fun j hj => hA j (by omega)⟩,fun z => z.1⟩
    repeat ((first|refine qah t1 ?_|refine qag t1 ?_|refine pkT t1 ?_|refine qaa t1 ?_|refine qah (qa1 t1) ?_|refine qag (qa1 t1) ?_|refine pkT (qa1 t1) ?_|refine qaa (qa1 t1) ?_|refine qam t2 ?_|refine qan t2 ?_|refine pkF t2 ?_|refine qab t2 ?_|refine qac hS (by kernel_rfl) ?_);conv => whnf)
    refine .inl ?_
    conv => whnf
    repeat ((first|refine qad hC (pE) ?_|refine qac hS (by kernel_rfl) ?_);conv => whnf)
    exact ⟨_,rfl,wkb hz⟩
  ·have t1:decide (Int.ofNat i < (Ls.length:Int)) = false :=qa9 hi2
   have hz:decide (Ls.length ≤ 8) = b :=by
    rw [Bool.eq_iff_iff,decide_eq_true_eq,hb]
    exact ⟨fun z => ⟨z,fun j hj => hA j (by omega)⟩,fun z => z.1⟩
   repeat ((first|refine qam t1 ?_|refine qan t1 ?_|refine pkF t1 ?_|refine qab t1 ?_|refine qam (qb3 t1) ?_|refine qan (qb3 t1) ?_|refine pkF (qb3 t1) ?_|refine qab (qb3 t1) ?_|refine qac hS (by kernel_rfl) ?_);conv => whnf)
   refine .inl ?_
   conv => whnf
   repeat ((first|refine qad hC (pE) ?_|refine qac hS (by kernel_rfl) ?_);conv => whnf)
   exact ⟨_,rfl,wkb hz⟩
end
end Go.Abs.Seat
