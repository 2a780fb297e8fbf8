/-
  The text of a rule with trains, as the program writes it.
-/
import Derived.Test.YtnimgfkggbnjoaaGreatDoorVU12
namespace Go.Abs.Seat
noncomputable section
open Go Go.Abs Go.Proofs.Tryz
set_option maxRecDepth 100000
set_option maxHeartbeats 40000000
attribute [local irreducible] IntKind.wrap pEq
def xqV (t:List (Nat × Nat)):AV :=if t = [] then .nils else pv (zp t)
def xqs (T:List (List (Nat × Nat))):List AV :=T.map xqV
theorem qu8 (t:List (Nat × Nat)):Live noL (xqV t) :=by
 unfold xqV
 split
 ·trivial
 ·exact qyh _
theorem qu9 (t:List (Nat × Nat)):PQ (xqV t) (zp t) :=by
 unfold xqV
 split
 ·rename_i e;exact .inl ⟨rfl,by rw [e];rfl⟩
 ·exact .inr rfl
theorem qcw:∀ T,Lives noL (xqs T)
 | [] => trivial
 |t :: r => ⟨qu8 t,qcw r⟩
theorem qwc (T:List (List (Nat × Nat))):(xqs T).length = T.length :=List.length_map _
theorem qfm (T:List (List (Nat × Nat))) {i:Nat} (h:i < T.length):nth (xqs T) (i * 1) = some (xqV (gT T i)) :=by
 rw [qe2,Nat.mul_one]
 unfold xqs gT
 rw [List.getElem?_map,List.getElem?_eq_getElem h]
 simp [List.getD,h]
theorem qf6 (T:List (List (Nat × Nat))) {i:Nat} (h:i < T.length):T.take (i + 1) = T.take i ++ [gT T i] :=by
 rw [List.take_succ_eq_append_getElem h]
 simp [gT,List.getD,h]
theorem qg9 (t:List (Nat × Nat)):xqV t = .nils ∨ ∃ l,xqV t = pv l :=by
 unfold xqV
 split
 ·exact .inl rfl
 ·exact .inr ⟨_,rfl⟩
abbrev rwHd (r:TrR) (N:AV):AV :=.iface 134 (.agg [nv r.1,nv r.2.1,nv r.2.2.1,nv r.2.2.2,N])
abbrev rwNv (N:AV):AV :=.iface 135 N
def rwTr (t:List (Nat × Nat)):AV :=.iface 137 (xqV t)
def rwT (r:TrR) (N:AV) (T:List (List (Nat × Nat))):List AV :=rwHd r N :: rwNv N :: T.map rwTr
theorem qbh {r:TrR} {N:AV} (hN:Live noL N) (T:List (List (Nat × Nat))):Lives noL (rwT r N T) :=by
 refine ⟨⟨trivial,trivial,trivial,trivial,hN,trivial⟩,hN,?_⟩
 induction T with
 |nil => trivial
 |cons x r ih => exact ⟨qu8 x,ih⟩
theorem qwj (r:TrR) (N:AV) (T:List (List (Nat × Nat))):(rwT r N T).length = T.length + 2 :=by
 unfold rwT
 rw [List.length_cons,List.length_cons,List.length_map]
theorem qwk (r:TrR) (N:AV) (T:List (List (Nat × Nat))) {i:Nat} (h:i < T.length):rwT r N (T.take i) ++ [rwTr (gT T i)] = rwT r N (T.take (i + 1)) :=by
 rw [qf6 T h]
 unfold rwT
 simp
theorem qk0 {r:TrR} {N:AV} {T:List (List (Nat × Nat))} {n:Nat} (h:T.length + 2 = n):qdq (rwT r N T) (n * 1) = true :=by
 rw [Nat.mul_one,← h,← qwj r N T]
 exact qd3 _
structure ShW (r:TrR) (V:List Nat) (T:List (List (Nat × Nat))):Prop where
 hV:V.length ≤ 900
 hT:T.length ≤ 900
 ht:∀ t,t ∈ T → t.length ≤ 450
theorem ShW.le {r:TrR} {V:List Nat} {T:List (List (Nat × Nat))} (h:ShW r V T) (j:Nat):(gB (lnsT r V T) j).length ≤ 4000 :=by
 by_cases k:j < (lnsT r V T).length
 ·have e:gB (lnsT r V T) j = (lnsT r V T)[j] :=by simp [gB,List.getD,k]
  rw [e]
  have hw :=List.getElem_mem k
  generalize (lnsT r V T)[j] = w at hw
  rcases List.mem_cons.1 hw with rfl | hw
  ·exact Nat.le_trans (qj1 r) (by decide)
  ·rcases List.mem_cons.1 hw with rfl | hw
   ·have k :=qd9 V qbv
    have e:qbv.length = 5 :=rfl
    have :=h.hV
    omega
   ·obtain ⟨t,ht,rfl⟩ :=List.mem_map.1 hw
    have k :=qd9 (flN t) qci
    have e:qci.length = 5 :=rfl
    have :=h.ht t ht
    rw [qaq] at k
    unfold lnT
    omega
 ·have e:gB (lnsT r V T) j = [] :=by simp [gB,List.getD,k]
  rw [e];exact Nat.zero_le _
theorem qdu {s:List UInt8} {i k:Nat} (hk:k ≤ 4000) (hi:i < 1000):ckL s i k ≤ 4096000000000 :=by
 refine Nat.le_trans (qv7 k) ?_
 have h1:k * (i + 1) ≤ 4000 * 1000 :=Nat.mul_le_mul hk (by omega)
 have h2:256 * (k * (i + 1)) ≤ 256 * 4000000 :=Nat.mul_le_mul_left _ h1
 exact Nat.le_trans (Nat.mul_le_mul hk h2) (by decide)
theorem qdt {l:List (List UInt8)} (h:∀ j,(gB l j).length ≤ 4000):∀ i,i ≤ 1000 → ckN l i ≤ i * 4096000000000
 | 0,_ => Nat.zero_le _
 |i + 1,hi => by
  have ih :=qdt h i (by omega)
  rw [ckN]
  have :=qdu (s :=gB l i) (i :=i) (h i) (by omega)
  omega
theorem qb6 {l:List (List UInt8)} (h:∀ j,(gB l j).length ≤ 4000):∀ i,(ouB l i).length ≤ i * 4001
 | 0 => Nat.le_refl _
 |i + 1 => by
  have ih :=qb6 h i
  have :=h i
  rw [ouB,List.length_append,List.length_append]
  show _ + (_ + 1) ≤ _
  omega
theorem qdf {c b k i:Nat} (hc:c ≤ 5000000000000000) (hb:b ≤ 256) (hk:k ≤ 4000) (hi:i < 1000):IntKind.i64.wrap (Int.ofNat c + IntKind.i64.wrap (IntKind.i64.wrap (IntKind.i64.wrap (Int.ofNat b) * IntKind.i64.wrap (Int.ofNat k + 1)) * IntKind.i64.wrap (Int.ofNat i + 1))) = Int.ofNat (c + b * (k + 1) * (i + 1)) :=by
 have h1:b * (k + 1) ≤ 256 * 4001 :=Nat.mul_le_mul hb (by omega)
 have h2:b * (k + 1) * (i + 1) ≤ 256 * 4001 * 1000 :=Nat.mul_le_mul h1 (by omega)
 rw [show IntKind.i64.wrap (Int.ofNat k + 1) = Int.ofNat (k + 1) from qav (m :=k + 1) (by omega),show IntKind.i64.wrap (Int.ofNat i + 1) = Int.ofNat (i + 1) from qav (m :=i + 1) (by omega)]
 rw [show IntKind.i64.wrap (Int.ofNat b) = Int.ofNat b from qav (m :=b) (by omega)]
 rw [show IntKind.i64.wrap (Int.ofNat b * Int.ofNat (k + 1)) = Int.ofNat (b * (k + 1)) from qav (m :=b * (k + 1)) (by omega)]
 rw [show IntKind.i64.wrap (Int.ofNat (b * (k + 1)) * Int.ofNat (i + 1)) = Int.ofNat (b * (k + 1) * (i + 1)) from qav (m :=b * (k + 1) * (i + 1)) (by omega)]
 exact qav (m :=c + b * (k + 1) * (i + 1)) (by omega)
theorem qaj {a b:List UInt8} (h:(a ++ b).length ≤ 100000000):decide (a.length + b.length ≤ qdx) = true :=decide_eq_true (by rw [List.length_append] at h;unfold qdx;omega)
theorem milB {a m:Nat} (h:a ≤ m) (hm:Nat.ble m 100000000 = true):a ≤ 100000000 :=Nat.le_trans h (Nat.le_of_ble_eq_true hm)
theorem qd6 (c:Nat):IntKind.i64.wrap ((Int.tmod (Int.ofNat c) 109).tdiv 100) = Int.ofNat (c % 109 / 100) ∧ (IntKind.i64.wrap ((Int.tmod (Int.ofNat c) 109).tdiv 10)).tmod 10 = Int.ofNat (c % 109 / 10 % 10) ∧ (Int.tmod (Int.ofNat c) 109).tmod 10 = Int.ofNat (c % 109 % 10) :=by
 have h :=Nat.mod_lt c (show 0 < 109 by decide)
 refine ⟨qav (m :=c % 109 / 100) (by omega),?_,rfl⟩
 rw [show IntKind.i64.wrap ((Int.tmod (Int.ofNat c) 109).tdiv 10) = Int.ofNat (c % 109 / 10) from qav (m :=c % 109 / 10) (by omega)]
 rfl
theorem qeb {r:TrR} {N:AV} {V:List Nat} {T:List (List (Nat × Nat))} (hN:IL N (zl V)) (o:okR r V T) (hw:ShW r V T) {i:Nat} (hi:i < T.length + 2) :
  (nth (rwT r N T) (i * 1) = some (rwHd r N) ∧ Pure prog 82 [rwHd r N] (.str (gB (lnsT r V T) i))) ∨ (nth (rwT r N T) (i * 1) = some (rwNv N) ∧ Pure prog 82 [rwNv N] (.str (gB (lnsT r V T) i))) ∨ (nth (rwT r N T) (i * 1) = some (.iface 137 .nils) ∧ Pure prog 82 [.iface 137 .nils] (.str (gB (lnsT r V T) i))) ∨ (∃ l,nth (rwT r N T) (i * 1) = some (.iface 137 (pv l)) ∧ Pure prog 82 [.iface 137 (pv l)] (.str (gB (lnsT r V T) i))) :=by
 rw [qe2,Nat.mul_one]
 unfold rwT lnsT gB
 rcases i with _ | _ | i
 ·left
  obtain ⟨a,b,c,s⟩ :=r
  have hs1:1 ≤ s :=o.1.2.1
  have hs2:s ≤ 3 :=o.1.2.2
  have hs:s = 1 ∨ s = 2 ∨ s = 3 :=by omega
  exact ⟨rfl,quc hN o.1.1.1 o.1.1.2.1 o.1.1.2.2 hs⟩
 ·right;left
  exact ⟨rfl,qph hN o.2.1 (by have :=hw.hV;omega)⟩
 ·right;right
  have hi2:i < T.length :=by omega
  have hm:T[i] ∈ T :=List.getElem_mem hi2
  have p :=qpi (qu9 T[i]) (o.2.2 _ hm) (by have :=hw.ht _ hm;omega)
  have e1:(rwHd r N :: rwNv N :: T.map rwTr)[i + 1 + 1]? = some (.iface 137 (xqV T[i])) :=by
   simp only [List.getElem?_cons_succ,List.getElem?_map,List.getElem?_eq_getElem hi2];rfl
  have e2:(lnR r :: lnW qbv V :: T.map lnT).getD (i + 1 + 1) [] = lnT T[i] :=by
   simp [List.getD,hi2]
  rw [e1,e2]
  rcases qg9 T[i] with h | ⟨l,h⟩
  ·rw [h] at p ⊢
   exact .inl ⟨rfl,p⟩
  ·rw [h] at p ⊢
   exact .inr ⟨l,rfl,p⟩
theorem qgx {r:TrR} {N v:AV} {T:List (List (Nat × Nat))} {i:Nat} (h:i < T.length) (hx:xqV (gT T i) = v):rwT r N (T.take i) ++ [.iface 137 v] = rwT r N (T.take (i + 1)) :=by
 rw [← qwk r N T h]
 unfold rwTr
 rw [hx]
theorem qtd {r:TrR} {V:List Nat} {T:List (List (Nat × Nat))} (hV0:V = []) (o:okR r V T) (hw:ShW r V T) (h1:1 ≤ T.length):Pure prog 34 [.agg [nv r.1,nv r.2.1,nv r.2.2.1,nv r.2.2.2,.nils],.lst (xqs T) T.length .no] (.str (prtT r V T)) :=by
 have hN:IL (.nils) (zl V) :=.inl ⟨rfl,by rw [hV0];rfl⟩
 have lN:Live noL (.nils) :=hN.no
 have lT :=qcw T
 have lV :=qa5 (zl V)
 have hT :=hw.hT
 have sW :=hw.le
 have rl :=fun i => @qeb r (.nils) V T hN o hw i
 have gx :=qfm T h1
 have hx :=qg9 (gT T 0)
 rcases hx with hx | ⟨l0,hx⟩
 all_goals
  have e1 :=qgx (r :=r) (N :=.nils) h1 hx
  rw [hx] at gx
  refine qap hE rfl (by repeat' first|exact trivial|assumption|exact qal _|exact fun _ h => nomatch h|apply And.intro) (by repeat' first|exact trivial|assumption|exact qal _|exact fun _ h => nomatch h|apply And.intro) fun S q pc hS hq hC hE => ?_
  conv => whnf
  refine qao hE hS ?_
  conv => whnf
  repeat ((first|refine qaf (nthP gx) ?_|refine qah (qae h1) ?_|refine qag (qae h1) ?_|refine pkT (qae h1) ?_|refine qaa (qae h1) ?_|refine qam (qae h1) ?_|refine qan (qae h1) ?_|refine pkF (qae h1) ?_|refine qab (qae h1) ?_|refine qah (qai h1) ?_|refine qag (qai h1) ?_|refine pkT (qai h1) ?_|refine qaa (qai h1) ?_|refine qac hS (by kernel_rfl) ?_);conv => whnf)
  refine qar hE hS (A :=Nat) [21,22] (fun i => [(5,.lst (rwT r (.nils) (T.take i)) (i + 2) (.ch 1)),(23,nv i)]) (fun i => [(1,.chain (i + 2) 1 139)]) (fun _ => []) (fun i => 1 ≤ i ∧ i ≤ T.length) (fun i => T.length - i) 1 (kle rfl) rfl (by refine ⟨rfl,rfl,rfl,rfl,rfl,rfl,2,rfl,?_,?_⟩ <;> repeat' (first|exact trivial|exact rfl|exact wkr rfl|exact wko rfl|exact Nat.zero_le _|exact ⟨_,rfl,WkV.int (qav (m :=1) (by decide))⟩|exact ⟨_,rfl,WkV.eq (congrArg (fun z => AV.lst z 3 (.ch 1)) e1)⟩|exact qas (qbh lN _) (by decide)|exact qak (qbh lN _)|exact qak lT|exact qak lV|exact kle rfl|exact bdq|exact mxI rfl|exact mxS rfl|apply And.intro)) ⟨Nat.le_refl _,h1⟩ ?_
  intro i ⟨hi,hiN⟩ K hK
  obtain rfl:K = 2 :=hK
  conv => whnf
  by_cases hi2:i < T.length
  ·have hi1:IntKind.i64.wrap (Int.ofNat i + 1) = Int.ofNat (i + 1) :=qav (m :=i + 1) (by omega)
   have d1:decide ((i + 2 + (0 + 1)) * 16 ≤ 140737488355328) = true :=decide_eq_true (by omega)
   have d2:decide (i + 2 + (0 + 1) ≤ 9223372036854775807) = true :=decide_eq_true (by omega)
   have d3 :=qk0 (r :=r) (N :=.nils) (T :=T.take i) (n :=i + 2) (by rw [List.length_take];omega)
   have d4:decide (i + 2 = i + 2) = true :=decide_eq_true rfl
   have gy :=qfm T hi2
   refine Or.elim (qg9 (gT T i)) (fun hy => ?_) fun hy => Exists.elim hy fun ly hy => ?_
   all_goals
    have e2 :=qgx (r :=r) (N :=.nils) hi2 hy
    rw [hy] at gy
    repeat ((first|refine qaf (nthP gy) ?_|refine qah (qae hi2) ?_|refine qag (qae hi2) ?_|refine pkT (qae hi2) ?_|refine qaa (qae hi2) ?_|refine qam (qae hi2) ?_|refine qan (qae hi2) ?_|refine pkF (qae hi2) ?_|refine qab (qae hi2) ?_|refine qah (qai hi2) ?_|refine qag (qai hi2) ?_|refine pkT (qai hi2) ?_|refine qaa (qai hi2) ?_|refine qah d1 ?_|refine qag d1 ?_|refine pkT d1 ?_|refine qaa d1 ?_|refine qah d2 ?_|refine qag d2 ?_|refine pkT d2 ?_|refine qaa d2 ?_|refine qah d3 ?_|refine qag d3 ?_|refine pkT d3 ?_|refine qaa d3 ?_|refine qam d3 ?_|refine qan d3 ?_|refine pkF d3 ?_|refine qab d3 ?_|refine qah d4 ?_|refine qag d4 ?_|refine pkT d4 ?_|refine qaa d4 ?_|refine qac hS (by kernel_rfl) ?_);conv => whnf)
    exact ⟨i + 1,⟨by omega,hi2⟩,by omega,kle rfl,(by refine ⟨rfl,rfl,rfl,rfl,rfl,rfl,2,rfl,?_,?_⟩ <;> repeat' (first|exact trivial|exact rfl|exact wkr rfl|exact wko rfl|exact Nat.zero_le _|exact ⟨_,rfl,WkV.int hi1⟩|exact ⟨_,rfl,WkV.eq (congrArg (fun z => AV.lst z (i + 2 + 1) (.ch 1)) e2)⟩|exact qas (qbh lN _) (by decide)|exact qak (qbh lN _)|exact qak lT|exact qak lV|exact kle rfl|exact bdq|exact mxI rfl|exact mxS rfl|apply And.intro))⟩
  ·refine qab (qa9 hi2) ?_
   conv => whnf
   refine .inl ?_
   conv => whnf
   have hiE:i = T.length :=by omega
   have eR:AV.lst (rwT r (.nils) (T.take i)) (i + 2) (.ch 1) = .lst (rwT r (.nils) T) (T.length + 2) (.ch 1) :=by rw [hiE,List.take_length]
   have eN2:Int.ofNat (i + 2) = Int.ofNat (T.length + 2) :=by rw [hiE]
   refine qar hE hS (A :=Nat) [] (fun i => [(33,.lst (rwT r (.nils) T) (T.length + 2) (.ch 1)),(34,nv (T.length + 2)),(8,.str (ouB (lnsT r V T) i)),(9,nv (ckN (lnsT r V T) i)),(35,nv i)]) (fun _ => []) (fun _ => []) (fun i => i ≤ T.length + 2) (fun i => T.length + 2 - i) 0 (kle rfl) rfl (by refine ⟨rfl,rfl,rfl,rfl,rfl,rfl,2,rfl,?_,?_⟩ <;> repeat' (first|exact trivial|exact rfl|exact wkr rfl|exact wko rfl|exact Nat.zero_le _|exact ⟨_,rfl,WkV.eq eR⟩|exact ⟨_,rfl,WkV.int eN2⟩|exact qas (qbh lN _) (by decide)|exact qak (qbh lN _)|exact qak lT|exact qak lV|exact kle rfl|exact bdq|exact mxI rfl|exact mxS rfl|apply And.intro)) (Nat.zero_le _) ?_
   intro i hi K hK
   obtain rfl:K = 2 :=hK
   conv => whnf
   by_cases hi2:i < T.length + 2
   ·have hi1:IntKind.i64.wrap (Int.ofNat i + 1) = Int.ofNat (i + 1) :=qav (m :=i + 1) (by omega)
    have hs :=sW i
    refine Or.elim (rl i hi2) (fun hr => ?_) fun hr => Or.elim hr (fun hr => ?_) fun hr => Or.elim hr (fun hr => ?_) fun hr => Exists.elim hr fun l9 hr => ?_
    all_goals
     have gr :=hr.1
     have pl :=hr.2
     have hw :=qdt sW i (by omega)
     repeat ((first|refine qaf (nthP gr) ?_|refine qah (qae hi2) ?_|refine qag (qae hi2) ?_|refine pkT (qae hi2) ?_|refine qaa (qae hi2) ?_|refine qam (qae hi2) ?_|refine qan (qae hi2) ?_|refine pkF (qae hi2) ?_|refine qab (qae hi2) ?_|refine qah (qai hi2) ?_|refine qag (qai hi2) ?_|refine pkT (qai hi2) ?_|refine qaa (qai hi2) ?_|refine qad hC (pl) ?_|refine qac hS (by kernel_rfl) ?_);conv => whnf)
     refine qar hE hS (A :=Nat) [33,34,8,10,12,35,43] (fun k => [(9,nv (ckN (lnsT r V T) i + ckL (gB (lnsT r V T) i) i k)),(44,nv k)]) (fun _ => []) (fun _ => []) (fun k => k ≤ (gB (lnsT r V T) i).length) (fun k => (gB (lnsT r V T) i).length - k) 0 (kle rfl) rfl (by refine ⟨rfl,rfl,rfl,rfl,rfl,rfl,2,rfl,?_,?_⟩ <;> repeat' (first|exact trivial|exact rfl|exact wkr rfl|exact wko rfl|exact Nat.zero_le _|exact qas (qbh lN _) (by decide)|exact qak (qbh lN _)|exact qak lT|exact qak lV|exact kle rfl|exact bdq|exact mxI rfl|exact mxS rfl|apply And.intro)) (Nat.zero_le _) ?_
     intro k hk K hK
     obtain rfl:K = 2 :=hK
     conv => whnf
     by_cases hk2:k < (gB (lnsT r V T) i).length
     ·have hk1:IntKind.i64.wrap (Int.ofNat k + 1) = Int.ofNat (k + 1) :=qav (m :=k + 1) (by omega)
      have hc :=qdu (s :=gB (lnsT r V T) i) (i :=i) (k :=k) (by omega) (by omega)
      have hb:((gB (lnsT r V T) i).getD k 0).toNat ≤ 256 :=Nat.le_of_lt (UInt8.toNat_lt _)
      have ew:_ = Int.ofNat (ckN (lnsT r V T) i + ckL (gB (lnsT r V T) i) i (k + 1)) :=(qdf (c :=ckN (lnsT r V T) i + ckL (gB (lnsT r V T) i) i k) (by omega) hb (show k ≤ 4000 by omega) (show i < 1000 by omega)).trans (by rw [ckL,Nat.add_assoc])
      repeat ((first|refine qaf (qch hk2) ?_|refine qah (qae hk2) ?_|refine qag (qae hk2) ?_|refine pkT (qae hk2) ?_|refine qaa (qae hk2) ?_|refine qam (qae hk2) ?_|refine qan (qae hk2) ?_|refine pkF (qae hk2) ?_|refine qab (qae hk2) ?_|refine qah (qai hk2) ?_|refine qag (qai hk2) ?_|refine pkT (qai hk2) ?_|refine qaa (qai hk2) ?_|refine qac hS (by kernel_rfl) ?_);conv => whnf)
      exact ⟨k + 1,hk2,by omega,Nat.le_refl _,(by refine ⟨rfl,rfl,rfl,rfl,rfl,rfl,2,rfl,?_,?_⟩ <;> repeat' (first|exact trivial|exact rfl|exact wkr rfl|exact wko rfl|exact Nat.zero_le _|exact ⟨_,rfl,WkV.int hk1⟩|exact ⟨_,rfl,WkV.int ew⟩|exact qas (qbh lN _) (by decide)|exact qak (qbh lN _)|exact qak lT|exact qak lV|exact kle rfl|exact bdq|exact mxI rfl|exact mxS rfl|apply And.intro))⟩
     ·refine qab (qa9 hk2) ?_
      conv => whnf
      refine .inl ?_
      conv => whnf
      have hkE:k = (gB (lnsT r V T) i).length :=by omega
      have o1 :=qb6 sW i
      have o2 :=qa0 hs (Nat.le_refl ([10]:List UInt8).length)
      have o3 :=qa0 o1 o2
      have o4:(ouB (lnsT r V T) i ++ (gB (lnsT r V T) i ++ [10])).length ≤ 100000000 :=by simp only [List.length_cons,List.length_nil] at o3;omega
      repeat ((first|refine qah (qaj (milB o2 rfl)) ?_|refine qag (qaj (milB o2 rfl)) ?_|refine pkT (qaj (milB o2 rfl)) ?_|refine qaa (qaj (milB o2 rfl)) ?_|refine qam (qaj (milB o2 rfl)) ?_|refine qan (qaj (milB o2 rfl)) ?_|refine pkF (qaj (milB o2 rfl)) ?_|refine qab (qaj (milB o2 rfl)) ?_|refine qah (qaj o4) ?_|refine qag (qaj o4) ?_|refine pkT (qaj o4) ?_|refine qaa (qaj o4) ?_|refine qam (qaj o4) ?_|refine qan (qaj o4) ?_|refine pkF (qaj o4) ?_|refine qab (qaj o4) ?_|refine qac hS (by kernel_rfl) ?_);conv => whnf)
      exact ⟨i + 1,hi2,by omega,Nat.le_refl _,(by refine ⟨rfl,rfl,rfl,rfl,rfl,rfl,2,rfl,?_,?_⟩ <;> repeat' (first|exact trivial|exact rfl|exact wkr rfl|exact wko rfl|exact Nat.zero_le _|exact ⟨_,rfl,WkV.int hi1⟩|exact ⟨_,rfl,WkV.int (show Int.ofNat (ckN (lnsT r V T) i + ckL (gB (lnsT r V T) i) i k) = Int.ofNat (ckN (lnsT r V T) (i + 1)) by rw [ckN,hkE])⟩|exact qas (qbh lN _) (by decide)|exact qak (qbh lN _)|exact qak lT|exact qak lV|exact kle rfl|exact bdq|exact mxI rfl|exact mxS rfl|apply And.intro))⟩
   ·have hiE2:i = (lnsT r V T).length :=by rw [qcf];omega
    have t :=qd6 (ckN (lnsT r V T) i)
    have hm :=Nat.mod_lt (ckN (lnsT r V T) i) (show 0 < 109 by decide)
    have p1 :=qck t.1 (by omega)
    have p2 :=qck t.2.1 (by omega)
    have p3 :=qck t.2.2 (by omega)
    have o1 :=qb6 sW i
    have o2:(ouB (lnsT r V T) i ++ [101,110,100,32]).length ≤ 5000000 :=by rw [List.length_append];show _ + 4 ≤ _;omega
    have o3 :=qa0 o2 (qbb (ckN (lnsT r V T) i % 109 / 100))
    have o4 :=qa0 o3 (qbb (ckN (lnsT r V T) i % 109 / 10 % 10))
    have o5 :=qa0 o4 (qbb (ckN (lnsT r V T) i % 109 % 10))
    have o6 :=qa0 o5 (Nat.le_refl ([10]:List UInt8).length)
    refine qab (qa9 hi2) ?_
    conv => whnf
    refine .inl ?_
    conv => whnf
    repeat ((first|refine qah (qaj (milB o2 rfl)) ?_|refine qag (qaj (milB o2 rfl)) ?_|refine pkT (qaj (milB o2 rfl)) ?_|refine qaa (qaj (milB o2 rfl)) ?_|refine qam (qaj (milB o2 rfl)) ?_|refine qan (qaj (milB o2 rfl)) ?_|refine pkF (qaj (milB o2 rfl)) ?_|refine qab (qaj (milB o2 rfl)) ?_|refine qah (qaj (milB o3 rfl)) ?_|refine qag (qaj (milB o3 rfl)) ?_|refine pkT (qaj (milB o3 rfl)) ?_|refine qaa (qaj (milB o3 rfl)) ?_|refine qam (qaj (milB o3 rfl)) ?_|refine qan (qaj (milB o3 rfl)) ?_|refine pkF (qaj (milB o3 rfl)) ?_|refine qab (qaj (milB o3 rfl)) ?_|refine qah (qaj (milB o4 rfl)) ?_|refine qag (qaj (milB o4 rfl)) ?_|refine pkT (qaj (milB o4 rfl)) ?_|refine qaa (qaj (milB o4 rfl)) ?_|refine qam (qaj (milB o4 rfl)) ?_|refine qan (qaj (milB o4 rfl)) ?_|refine pkF (qaj (milB o4 rfl)) ?_|refine qab (qaj (milB o4 rfl)) ?_|refine qah (qaj (milB o5 rfl)) ?_|refine qag (qaj (milB o5 rfl)) ?_|refine pkT (qaj (milB o5 rfl)) ?_|refine qaa (qaj (milB o5 rfl)) ?_|refine qam (qaj (milB o5 rfl)) ?_|refine qan (qaj (milB o5 rfl)) ?_|refine pkF (qaj (milB o5 rfl)) ?_|refine qab (qaj (milB o5 rfl)) ?_|refine qah (qaj (milB o6 rfl)) ?_|refine qag (qaj (milB o6 rfl)) ?_|refine pkT (qaj (milB o6 rfl)) ?_|refine qaa (qaj (milB o6 rfl)) ?_|refine qam (qaj (milB o6 rfl)) ?_|refine qan (qaj (milB o6 rfl)) ?_|refine pkF (qaj (milB o6 rfl)) ?_|refine qab (qaj (milB o6 rfl)) ?_|refine qad hC (p1) ?_|refine qad hC (p2) ?_|refine qad hC (p3) ?_|refine qac hS (by kernel_rfl) ?_);conv => whnf)
    exact ⟨_,rfl,wk_s (by unfold prtT finB;rw [← hiE2])⟩
theorem qth {r:TrR} {V:List Nat} {T:List (List (Nat × Nat))} (hV0:V = []) (o:okR r V T) (hw:ShW r V T) (h0:T = []):Pure prog 34 [.agg [nv r.1,nv r.2.1,nv r.2.2.1,nv r.2.2.2,.nils],.nils] (.str (prtT r V T)) :=by
 have hN:IL (.nils) (zl V) :=.inl ⟨rfl,by rw [hV0];rfl⟩
 have lN:Live noL (.nils) :=hN.no
 have lT :=qcw T
 have lV :=qa5 (zl V)
 have hT :=hw.hT
 have sW :=hw.le
 have rl :=fun i => @qeb r (.nils) V T hN o hw i
 have eR:AV.lst [rwHd r (.nils),rwNv (.nils)] 2 .full = .lst (rwT r (.nils) T) (T.length + 2) .full :=by rw [h0];rfl
 have eN2:Int.ofNat 2 = Int.ofNat (T.length + 2) :=by rw [h0];rfl
 refine qap hE rfl (by repeat' first|exact trivial|assumption|exact qal _|exact fun _ h => nomatch h|apply And.intro) (by repeat' first|exact trivial|assumption|exact qal _|exact fun _ h => nomatch h|apply And.intro) fun S q pc hS hq hC hE => ?_
 conv => whnf
 refine qao hE hS ?_
 conv => whnf
 repeat ((first|refine qac hS (by kernel_rfl) ?_);conv => whnf)
 refine qar hE hS (A :=Nat) [] (fun i => [(33,.lst (rwT r (.nils) T) (T.length + 2) .full),(34,nv (T.length + 2)),(8,.str (ouB (lnsT r V T) i)),(9,nv (ckN (lnsT r V T) i)),(35,nv i)]) (fun _ => []) (fun _ => []) (fun i => i ≤ T.length + 2) (fun i => T.length + 2 - i) 0 (kle rfl) rfl (by refine ⟨rfl,rfl,rfl,rfl,rfl,rfl,1,rfl,?_,?_⟩ <;> repeat' (first|exact trivial|exact rfl|exact wkr rfl|exact wko rfl|exact Nat.zero_le _|exact ⟨_,rfl,WkV.eq eR⟩|exact ⟨_,rfl,WkV.int eN2⟩|exact qas (qbh lN _) (by decide)|exact qak (qbh lN _)|exact qak lT|exact qak lV|exact kle rfl|exact bdq|exact mxI rfl|exact mxS rfl|apply And.intro)) (Nat.zero_le _) ?_
 intro i hi K hK
 obtain rfl:K = 1 :=hK
 conv => whnf
 by_cases hi2:i < T.length + 2
 ·have hi1:IntKind.i64.wrap (Int.ofNat i + 1) = Int.ofNat (i + 1) :=qav (m :=i + 1) (by omega)
  have hs :=sW i
  refine Or.elim (rl i hi2) (fun hr => ?_) fun hr => Or.elim hr (fun hr => ?_) fun hr => Or.elim hr (fun hr => ?_) fun hr => Exists.elim hr fun l9 hr => ?_
  all_goals
   have gr :=hr.1
   have pl :=hr.2
   have hw :=qdt sW i (by omega)
   repeat ((first|refine qaf (nthP gr) ?_|refine qah (qae hi2) ?_|refine qag (qae hi2) ?_|refine pkT (qae hi2) ?_|refine qaa (qae hi2) ?_|refine qam (qae hi2) ?_|refine qan (qae hi2) ?_|refine pkF (qae hi2) ?_|refine qab (qae hi2) ?_|refine qah (qai hi2) ?_|refine qag (qai hi2) ?_|refine pkT (qai hi2) ?_|refine qaa (qai hi2) ?_|refine qad hC (pl) ?_|refine qac hS (by kernel_rfl) ?_);conv => whnf)
   refine qar hE hS (A :=Nat) [33,34,8,10,12,35,43] (fun k => [(9,nv (ckN (lnsT r V T) i + ckL (gB (lnsT r V T) i) i k)),(44,nv k)]) (fun _ => []) (fun _ => []) (fun k => k ≤ (gB (lnsT r V T) i).length) (fun k => (gB (lnsT r V T) i).length - k) 0 (kle rfl) rfl (by refine ⟨rfl,rfl,rfl,rfl,rfl,rfl,1,rfl,?_,?_⟩ <;> repeat' (first|exact trivial|exact rfl|exact wkr rfl|exact wko rfl|exact Nat.zero_le _|exact qas (qbh lN _) (by decide)|exact qak (qbh lN _)|exact qak lT|exact qak lV|exact kle rfl|exact bdq|exact mxI rfl|exact mxS rfl|apply And.intro)) (Nat.zero_le _) ?_
   intro k hk K hK
   obtain rfl:K = 1 :=hK
   conv => whnf
   by_cases hk2:k < (gB (lnsT r V T) i).length
   ·have hk1:IntKind.i64.wrap (Int.ofNat k + 1) = Int.ofNat (k + 1) :=qav (m :=k + 1) (by omega)
    have hc :=qdu (s :=gB (lnsT r V T) i) (i :=i) (k :=k) (by omega) (by omega)
    have hb:((gB (lnsT r V T) i).getD k 0).toNat ≤ 256 :=Nat.le_of_lt (UInt8.toNat_lt _)
    have ew:_ = Int.ofNat (ckN (lnsT r V T) i + ckL (gB (lnsT r V T) i) i (k + 1)) :=(qdf (c :=ckN (lnsT r V T) i + ckL (gB (lnsT r V T) i) i k) (by omega) hb (show k ≤ 4000 by omega) (show i < 1000 by omega)).trans (by rw [ckL,Nat.add_assoc])
    repeat ((first|refine qaf (qch hk2) ?_|refine qah (qae hk2) ?_|refine qag (qae hk2) ?_|refine pkT (qae hk2) ?_|refine qaa (qae hk2) ?_|refine qam (qae hk2) ?_|refine qan (qae hk2) ?_|refine pkF (qae hk2) ?_|refine qab (qae hk2) ?_|refine qah (qai hk2) ?_|refine qag (qai hk2) ?_|refine pkT (qai hk2) ?_|refine qaa (qai hk2) ?_|refine qac hS (by kernel_rfl) ?_);conv => whnf)
    exact ⟨k + 1,hk2,by omega,Nat.le_refl _,(by refine ⟨rfl,rfl,rfl,rfl,rfl,rfl,1,rfl,?_,?_⟩ <;> repeat' (first|exact trivial|exact rfl|exact wkr rfl|exact wko rfl|exact Nat.zero_le _|exact ⟨_,rfl,WkV.int hk1⟩|exact ⟨_,rfl,WkV.int ew⟩|exact qas (qbh lN _) (by decide)|exact qak (qbh lN _)|exact qak lT|exact qak lV|exact kle rfl|exact bdq|exact mxI rfl|exact mxS rfl|apply And.intro))⟩
   ·refine qab (qa9 hk2) ?_
    conv => whnf
    refine .inl ?_
    conv => whnf
    have hkE:k = (gB (lnsT r V T) i).length :=by omega
    have o1 :=qb6 sW i
    have o2 :=qa0 hs (Nat.le_refl ([10]:List UInt8).length)
    have o3 :=qa0 o1 o2
    have o4:(ouB (lnsT r V T) i ++ (gB (lnsT r V T) i ++ [10])).length ≤ 100000000 :=by simp only [List.length_cons,List.length_nil] at o3;omega
    repeat ((first|refine qah (qaj (milB o2 rfl)) ?_|refine qag (qaj (milB o2 rfl)) ?_|refine pkT (qaj (milB o2 rfl)) ?_|refine qaa (qaj (milB o2 rfl)) ?_|refine qam (qaj (milB o2 rfl)) ?_|refine qan (qaj (milB o2 rfl)) ?_|refine pkF (qaj (milB o2 rfl)) ?_|refine qab (qaj (milB o2 rfl)) ?_|refine qah (qaj o4) ?_|refine qag (qaj o4) ?_|refine pkT (qaj o4) ?_|refine qaa (qaj o4) ?_|refine qam (qaj o4) ?_|refine qan (qaj o4) ?_|refine pkF (qaj o4) ?_|refine qab (qaj o4) ?_|refine qac hS (by kernel_rfl) ?_);conv => whnf)
    exact ⟨i + 1,hi2,by omega,Nat.le_refl _,(by refine ⟨rfl,rfl,rfl,rfl,rfl,rfl,1,rfl,?_,?_⟩ <;> repeat' (first|exact trivial|exact rfl|exact wkr rfl|exact wko rfl|exact Nat.zero_le _|exact ⟨_,rfl,WkV.int hi1⟩|exact ⟨_,rfl,WkV.int (show Int.ofNat (ckN (lnsT r V T) i + ckL (gB (lnsT r V T) i) i k) = Int.ofNat (ckN (lnsT r V T) (i + 1)) by rw [ckN,hkE])⟩|exact qas (qbh lN _) (by decide)|exact qak (qbh lN _)|exact qak lT|exact qak lV|exact kle rfl|exact bdq|exact mxI rfl|exact mxS rfl|apply And.intro))⟩
 ·have hiE2:i = (lnsT r V T).length :=by rw [qcf];omega
  have t :=qd6 (ckN (lnsT r V T) i)
  have hm :=Nat.mod_lt (ckN (lnsT r V T) i) (show 0 < 109 by decide)
  have p1 :=qck t.1 (by omega)
  have p2 :=qck t.2.1 (by omega)
  have p3 :=qck t.2.2 (by omega)
  have o1 :=qb6 sW i
  have o2:(ouB (lnsT r V T) i ++ [101,110,100,32]).length ≤ 5000000 :=by rw [List.length_append];show _ + 4 ≤ _;omega
  have o3 :=qa0 o2 (qbb (ckN (lnsT r V T) i % 109 / 100))
  have o4 :=qa0 o3 (qbb (ckN (lnsT r V T) i % 109 / 10 % 10))
  have o5 :=qa0 o4 (qbb (ckN (lnsT r V T) i % 109 % 10))
  have o6 :=qa0 o5 (Nat.le_refl ([10]:List UInt8).length)
  refine qab (qa9 hi2) ?_
  conv => whnf
  refine .inl ?_
  conv => whnf
  repeat ((first|refine qah (qaj (milB o2 rfl)) ?_|refine qag (qaj (milB o2 rfl)) ?_|refine pkT (qaj (milB o2 rfl)) ?_|refine qaa (qaj (milB o2 rfl)) ?_|refine qam (qaj (milB o2 rfl)) ?_|refine qan (qaj (milB o2 rfl)) ?_|refine pkF (qaj (milB o2 rfl)) ?_|refine qab (qaj (milB o2 rfl)) ?_|refine qah (qaj (milB o3 rfl)) ?_|refine qag (qaj (milB o3 rfl)) ?_|refine pkT (qaj (milB o3 rfl)) ?_|refine qaa (qaj (milB o3 rfl)) ?_|refine qam (qaj (milB o3 rfl)) ?_|refine qan (qaj (milB o3 rfl)) ?_|refine pkF (qaj (milB o3 rfl)) ?_|refine qab (qaj (milB o3 rfl)) ?_|refine qah (qaj (milB o4 rfl)) ?_|refine qag (qaj (milB o4 rfl)) ?_|refine pkT (qaj (milB o4 rfl)) ?_|refine qaa (qaj (milB o4 rfl)) ?_|refine qam (qaj (milB o4 rfl)) ?_|refine qan (qaj (milB o4 rfl)) ?_|refine pkF (qaj (milB o4 rfl)) ?_|refine qab (qaj (milB o4 rfl)) ?_|refine qah (qaj (milB o5 rfl)) ?_|refine qag (qaj (milB o5 rfl)) ?_|refine pkT (qaj (milB o5 rfl)) ?_|refine qaa (qaj (milB o5 rfl)) ?_|refine qam (qaj (milB o5 rfl)) ?_|refine qan (qaj (milB o5 rfl)) ?_|refine pkF (qaj (milB o5 rfl)) ?_|refine qab (qaj (milB o5 rfl)) ?_|refine qah (qaj (milB o6 rfl)) ?_|refine qag (qaj (milB o6 rfl)) ?_|refine pkT (qaj (milB o6 rfl)) ?_|refine qaa (qaj (milB o6 rfl)) ?_|refine qam (qaj (milB o6 rfl)) ?_|refine qan (qaj (milB o6 rfl)) ?_|refine pkF (qaj (milB o6 rfl)) ?_|refine qab (qaj (milB o6 rfl)) ?_|refine qad hC (p1) ?_|refine qad hC (p2) ?_|refine qad hC (p3) ?_|refine qac hS (by kernel_rfl) ?_);conv => whnf)
  exact ⟨_,rfl,wk_s (by unfold prtT finB;rw [← hiE2])⟩
theorem qtf {r:TrR} {V:List Nat} {T:List (List (Nat × Nat))} (hV0:V = []) (o:okR r V T) (hw:ShW r V T) (h0:T = []):Pure prog 34 [.agg [nv r.1,nv r.2.1,nv r.2.2.1,nv r.2.2.2,.nils],.lst [] 0 .no] (.str (prtT r V T)) :=by
 have hN:IL (.nils) (zl V) :=.inl ⟨rfl,by rw [hV0];rfl⟩
 have lN:Live noL (.nils) :=hN.no
 have lT :=qcw T
 have lV :=qa5 (zl V)
 have hT :=hw.hT
 have sW :=hw.le
 have rl :=fun i => @qeb r (.nils) V T hN o hw i
 have eR:AV.lst [rwHd r (.nils),rwNv (.nils)] 2 .full = .lst (rwT r (.nils) T) (T.length + 2) .full :=by rw [h0];rfl
 have eN2:Int.ofNat 2 = Int.ofNat (T.length + 2) :=by rw [h0];rfl
 refine qap hE rfl (by repeat' first|exact trivial|assumption|exact qal _|exact fun _ h => nomatch h|apply And.intro) (by repeat' first|exact trivial|assumption|exact qal _|exact fun _ h => nomatch h|apply And.intro) fun S q pc hS hq hC hE => ?_
 conv => whnf
 refine qao hE hS ?_
 conv => whnf
 repeat ((first|refine qac hS (by kernel_rfl) ?_);conv => whnf)
 refine qar hE hS (A :=Nat) [] (fun i => [(33,.lst (rwT r (.nils) T) (T.length + 2) .full),(34,nv (T.length + 2)),(8,.str (ouB (lnsT r V T) i)),(9,nv (ckN (lnsT r V T) i)),(35,nv i)]) (fun _ => []) (fun _ => []) (fun i => i ≤ T.length + 2) (fun i => T.length + 2 - i) 0 (kle rfl) rfl (by refine ⟨rfl,rfl,rfl,rfl,rfl,rfl,1,rfl,?_,?_⟩ <;> repeat' (first|exact trivial|exact rfl|exact wkr rfl|exact wko rfl|exact Nat.zero_le _|exact ⟨_,rfl,WkV.eq eR⟩|exact ⟨_,rfl,WkV.int eN2⟩|exact qas (qbh lN _) (by decide)|exact qak (qbh lN _)|exact qak lT|exact qak lV|exact kle rfl|exact bdq|exact mxI rfl|exact mxS rfl|apply And.intro)) (Nat.zero_le _) ?_
 intro i hi K hK
 obtain rfl:K = 1 :=hK
 conv => whnf
 by_cases hi2:i < T.length + 2
 ·have hi1:IntKind.i64.wrap (Int.ofNat i + 1) = Int.ofNat (i + 1) :=qav (m :=i + 1) (by omega)
  have hs :=sW i
  refine Or.elim (rl i hi2) (fun hr => ?_) fun hr => Or.elim hr (fun hr => ?_) fun hr => Or.elim hr (fun hr => ?_) fun hr => Exists.elim hr fun l9 hr => ?_
  all_goals
   have gr :=hr.1
   have pl :=hr.2
   have hw :=qdt sW i (by omega)
   repeat ((first|refine qaf (nthP gr) ?_|refine qah (qae hi2) ?_|refine qag (qae hi2) ?_|refine pkT (qae hi2) ?_|refine qaa (qae hi2) ?_|refine qam (qae hi2) ?_|refine qan (qae hi2) ?_|refine pkF (qae hi2) ?_|refine qab (qae hi2) ?_|refine qah (qai hi2) ?_|refine qag (qai hi2) ?_|refine pkT (qai hi2) ?_|refine qaa (qai hi2) ?_|refine qad hC (pl) ?_|refine qac hS (by kernel_rfl) ?_);conv => whnf)
   refine qar hE hS (A :=Nat) [33,34,8,10,12,35,43] (fun k => [(9,nv (ckN (lnsT r V T) i + ckL (gB (lnsT r V T) i) i k)),(44,nv k)]) (fun _ => []) (fun _ => []) (fun k => k ≤ (gB (lnsT r V T) i).length) (fun k => (gB (lnsT r V T) i).length - k) 0 (kle rfl) rfl (by refine ⟨rfl,rfl,rfl,rfl,rfl,rfl,1,rfl,?_,?_⟩ <;> repeat' (first|exact trivial|exact rfl|exact wkr rfl|exact wko rfl|exact Nat.zero_le _|exact qas (qbh lN _) (by decide)|exact qak (qbh lN _)|exact qak lT|exact qak lV|exact kle rfl|exact bdq|exact mxI rfl|exact mxS rfl|apply And.intro)) (Nat.zero_le _) ?_
   intro k hk K hK
   obtain rfl:K = 1 :=hK
   conv => whnf
   by_cases hk2:k < (gB (lnsT r V T) i).length
   ·have hk1:IntKind.i64.wrap (Int.ofNat k + 1) = Int.ofNat (k + 1) :=qav (m :=k + 1) (by omega)
    have hc :=qdu (s :=gB (lnsT r V T) i) (i :=i) (k :=k) (by omega) (by omega)
    have hb:((gB (lnsT r V T) i).getD k 0).toNat ≤ 256 :=Nat.le_of_lt (UInt8.toNat_lt _)
    have ew:_ = Int.ofNat (ckN (lnsT r V T) i + ckL (gB (lnsT r V T) i) i (k + 1)) :=(qdf (c :=ckN (lnsT r V T) i + ckL (gB (lnsT r V T) i) i k) (by omega) hb (show k ≤ 4000 by omega) (show i < 1000 by omega)).trans (by rw [ckL,Nat.add_assoc])
    repeat ((first|refine qaf (qch hk2) ?_|refine qah (qae hk2) ?_|refine qag (qae hk2) ?_|refine pkT (qae hk2) ?_|refine qaa (qae hk2) ?_|refine qam (qae hk2) ?_|refine qan (qae hk2) ?_|refine pkF (qae hk2) ?_|refine qab (qae hk2) ?_|refine qah (qai hk2) ?_|refine qag (qai hk2) ?_|refine pkT (qai hk2) ?_|refine qaa (qai hk2) ?_|refine qac hS (by kernel_rfl) ?_);conv => whnf)
    exact ⟨k + 1,hk2,by omega,Nat.le_refl _,(by refine ⟨rfl,rfl,rfl,rfl,rfl,rfl,1,rfl,?_,?_⟩ <;> repeat' (first|exact trivial|exact rfl|exact wkr rfl|exact wko rfl|exact Nat.zero_le _|exact ⟨_,rfl,WkV.int hk1⟩|exact ⟨_,rfl,WkV.int ew⟩|exact qas (qbh lN _) (by decide)|exact qak (qbh lN _)|exact qak lT|exact qak lV|exact kle rfl|exact bdq|exact mxI rfl|exact mxS rfl|apply And.intro))⟩
   ·refine qab (qa9 hk2) ?_
    conv => whnf
    refine .inl ?_
    conv => whnf
    have hkE:k = (gB (lnsT r V T) i).length :=by omega
    have o1 :=qb6 sW i
    have o2 :=qa0 hs (Nat.le_refl ([10]:List UInt8).length)
    have o3 :=qa0 o1 o2
    have o4:(ouB (lnsT r V T) i ++ (gB (lnsT r V T) i ++ [10])).length ≤ 100000000 :=by simp only [List.length_cons,List.length_nil] at o3;omega
    repeat ((first|refine qah (qaj (milB o2 rfl)) ?_|refine qag (qaj (milB o2 rfl)) ?_|refine pkT (qaj (milB o2 rfl)) ?_|refine qaa (qaj (milB o2 rfl)) ?_|refine qam (qaj (milB o2 rfl)) ?_|refine qan (qaj (milB o2 rfl)) ?_|refine pkF (qaj (milB o2 rfl)) ?_|refine qab (qaj (milB o2 rfl)) ?_|refine qah (qaj o4) ?_|refine qag (qaj o4) ?_|refine pkT (qaj o4) ?_|refine qaa (qaj o4) ?_|refine qam (qaj o4) ?_|refine qan (qaj o4) ?_|refine pkF (qaj o4) ?_|refine qab (qaj o4) ?_|refine qac hS (by kernel_rfl) ?_);conv => whnf)
    exact ⟨i + 1,hi2,by omega,Nat.le_refl _,(by refine ⟨rfl,rfl,rfl,rfl,rfl,rfl,1,rfl,?_,?_⟩ <;> repeat' (first|exact trivial|exact rfl|exact wkr rfl|exact wko rfl|exact Nat.zero_le _|exact ⟨_,rfl,WkV.int hi1⟩|exact ⟨_,rfl,WkV.int (show Int.ofNat (ckN (lnsT r V T) i + ckL (gB (lnsT r V T) i) i k) = Int.ofNat (ckN (lnsT r V T) (i + 1)) by rw [ckN,hkE])⟩|exact qas (qbh lN _) (by decide)|exact qak (qbh lN _)|exact qak lT|exact qak lV|exact kle rfl|exact bdq|exact mxI rfl|exact mxS rfl|apply And.intro))⟩
 ·have hiE2:i = (lnsT r V T).length :=by rw [qcf];omega
  have t :=qd6 (ckN (lnsT r V T) i)
  have hm :=Nat.mod_lt (ckN (lnsT r V T) i) (show 0 < 109 by decide)
  have p1 :=qck t.1 (by omega)
  have p2 :=qck t.2.1 (by omega)
  have p3 :=qck t.2.2 (by omega)
  have o1 :=qb6 sW i
  have o2:(ouB (lnsT r V T) i ++ [101,110,100,32]).length ≤ 5000000 :=by rw [List.length_append];show _ + 4 ≤ _;omega
  have o3 :=qa0 o2 (qbb (ckN (lnsT r V T) i % 109 / 100))
  have o4 :=qa0 o3 (qbb (ckN (lnsT r V T) i % 109 / 10 % 10))
  have o5 :=qa0 o4 (qbb (ckN (lnsT r V T) i % 109 % 10))
  have o6 :=qa0 o5 (Nat.le_refl ([10]:List UInt8).length)
  refine qab (qa9 hi2) ?_
  conv => whnf
  refine .inl ?_
  conv => whnf
  repeat ((first|refine qah (qaj (milB o2 rfl)) ?_|refine qag (qaj (milB o2 rfl)) ?_|refine pkT (qaj (milB o2 rfl)) ?_|refine qaa (qaj (milB o2 rfl)) ?_|refine qam (qaj (milB o2 rfl)) ?_|refine qan (qaj (milB o2 rfl)) ?_|refine pkF (qaj (milB o2 rfl)) ?_|refine qab (qaj (milB o2 rfl)) ?_|refine qah (qaj (milB o3 rfl)) ?_|refine qag (qaj (milB o3 rfl)) ?_|refine pkT (qaj (milB o3 rfl)) ?_|refine qaa (qaj (milB o3 rfl)) ?_|refine qam (qaj (milB o3 rfl)) ?_|refine qan (qaj (milB o3 rfl)) ?_|refine pkF (qaj (milB o3 rfl)) ?_|refine qab (qaj (milB o3 rfl)) ?_|refine qah (qaj (milB o4 rfl)) ?_|refine qag (qaj (milB o4 rfl)) ?_|refine pkT (qaj (milB o4 rfl)) ?_|refine qaa (qaj (milB o4 rfl)) ?_|refine qam (qaj (milB o4 rfl)) ?_|refine qan (qaj (milB o4 rfl)) ?_|refine pkF (qaj (milB o4 rfl)) ?_|refine qab (qaj (milB o4 rfl)) ?_|refine qah (qaj (milB o5 rfl)) ?_|refine qag (qaj (milB o5 rfl)) ?_|refine pkT (qaj (milB o5 rfl)) ?_|refine qaa (qaj (milB o5 rfl)) ?_|refine qam (qaj (milB o5 rfl)) ?_|refine qan (qaj (milB o5 rfl)) ?_|refine pkF (qaj (milB o5 rfl)) ?_|refine qab (qaj (milB o5 rfl)) ?_|refine qah (qaj (milB o6 rfl)) ?_|refine qag (qaj (milB o6 rfl)) ?_|refine pkT (qaj (milB o6 rfl)) ?_|refine qaa (qaj (milB o6 rfl)) ?_|refine qam (qaj (milB o6 rfl)) ?_|refine qan (qaj (milB o6 rfl)) ?_|refine pkF (qaj (milB o6 rfl)) ?_|refine qab (qaj (milB o6 rfl)) ?_|refine qad hC (p1) ?_|refine qad hC (p2) ?_|refine qad hC (p3) ?_|refine qac hS (by kernel_rfl) ?_);conv => whnf)
  exact ⟨_,rfl,wk_s (by unfold prtT finB;rw [← hiE2])⟩
theorem qtc {r:TrR} {V:List Nat} {T:List (List (Nat × Nat))} (o:okR r V T) (hw:ShW r V T) (h1:1 ≤ T.length):Pure prog 34 [.agg [nv r.1,nv r.2.1,nv r.2.2.1,nv r.2.2.2,nl (zl V)],.lst (xqs T) T.length .no] (.str (prtT r V T)) :=by
 have hN:IL (nl (zl V)) (zl V) :=.inr rfl
 have lN:Live noL (nl (zl V)) :=hN.no
 have lT :=qcw T
 have lV :=qa5 (zl V)
 have hT :=hw.hT
 have sW :=hw.le
 have rl :=fun i => @qeb r (nl (zl V)) V T hN o hw i
 have gx :=qfm T h1
 have hx :=qg9 (gT T 0)
 rcases hx with hx | ⟨l0,hx⟩
 all_goals
  have e1 :=qgx (r :=r) (N :=nl (zl V)) h1 hx
  rw [hx] at gx
  refine qap hE rfl (by repeat' first|exact trivial|assumption|exact qal _|exact fun _ h => nomatch h|apply And.intro) (by repeat' first|exact trivial|assumption|exact qal _|exact fun _ h => nomatch h|apply And.intro) fun S q pc hS hq hC hE => ?_
  conv => whnf
  refine qao hE hS ?_
  conv => whnf
  repeat ((first|refine qaf (nthP gx) ?_|refine qah (qae h1) ?_|refine qag (qae h1) ?_|refine pkT (qae h1) ?_|refine qaa (qae h1) ?_|refine qam (qae h1) ?_|refine qan (qae h1) ?_|refine pkF (qae h1) ?_|refine qab (qae h1) ?_|refine qah (qai h1) ?_|refine qag (qai h1) ?_|refine pkT (qai h1) ?_|refine qaa (qai h1) ?_|refine qac hS (by kernel_rfl) ?_);conv => whnf)
  refine qar hE hS (A :=Nat) [21,22] (fun i => [(5,.lst (rwT r (nl (zl V)) (T.take i)) (i + 2) (.ch 1)),(23,nv i)]) (fun i => [(1,.chain (i + 2) 1 139)]) (fun _ => []) (fun i => 1 ≤ i ∧ i ≤ T.length) (fun i => T.length - i) 1 (kle rfl) rfl (by refine ⟨rfl,rfl,rfl,rfl,rfl,rfl,2,rfl,?_,?_⟩ <;> repeat' (first|exact trivial|exact rfl|exact wkr rfl|exact wko rfl|exact Nat.zero_le _|exact ⟨_,rfl,WkV.int (qav (m :=1) (by decide))⟩|exact ⟨_,rfl,WkV.eq (congrArg (fun z => AV.lst z 3 (.ch 1)) e1)⟩|exact qas (qbh lN _) (by decide)|exact qak (qbh lN _)|exact qak lT|exact qak lV|exact kle rfl|exact bdq|exact mxI rfl|exact mxS rfl|apply And.intro)) ⟨Nat.le_refl _,h1⟩ ?_
  intro i ⟨hi,hiN⟩ K hK
  obtain rfl:K = 2 :=hK
  conv => whnf
  by_cases hi2:i < T.length
  ·have hi1:IntKind.i64.wrap (Int.ofNat i + 1) = Int.ofNat (i + 1) :=qav (m :=i + 1) (by omega)
   have d1:decide ((i + 2 + (0 + 1)) * 16 ≤ 140737488355328) = true :=decide_eq_true (by omega)
   have d2:decide (i + 2 + (0 + 1) ≤ 9223372036854775807) = true :=decide_eq_true (by omega)
   have d3 :=qk0 (r :=r) (N :=nl (zl V)) (T :=T.take i) (n :=i + 2) (by rw [List.length_take];omega)
   have d4:decide (i + 2 = i + 2) = true :=decide_eq_true rfl
   have gy :=qfm T hi2
   refine Or.elim (qg9 (gT T i)) (fun hy => ?_) fun hy => Exists.elim hy fun ly hy => ?_
   all_goals
    have e2 :=qgx (r :=r) (N :=nl (zl V)) hi2 hy
    rw [hy] at gy
    repeat ((first|refine qaf (nthP gy) ?_|refine qah (qae hi2) ?_|refine qag (qae hi2) ?_|refine pkT (qae hi2) ?_|refine qaa (qae hi2) ?_|refine qam (qae hi2) ?_|refine qan (qae hi2) ?_|refine pkF (qae hi2) ?_|refine qab (qae hi2) ?_|refine qah (qai hi2) ?_|refine qag (qai hi2) ?_|refine pkT (qai hi2) ?_|refine qaa (qai hi2) ?_|refine qah d1 ?_|refine qag d1 ?_|refine pkT d1 ?_|refine qaa d1 ?_|refine qah d2 ?_|refine qag d2 ?_|refine pkT d2 ?_|refine qaa d2 ?_|refine qah d3 ?_|refine qag d3 ?_|refine pkT d3 ?_|refine qaa d3 ?_|refine qam d3 ?_|refine qan d3 ?_|refine pkF d3 ?_|refine qab d3 ?_|refine qah d4 ?_|refine qag d4 ?_|refine pkT d4 ?_|refine qaa d4 ?_|refine qac hS (by kernel_rfl) ?_);conv => whnf)
    exact ⟨i + 1,⟨by omega,hi2⟩,by omega,kle rfl,(by refine ⟨rfl,rfl,rfl,rfl,rfl,rfl,2,rfl,?_,?_⟩ <;> repeat' (first|exact trivial|exact rfl|exact wkr rfl|exact wko rfl|exact Nat.zero_le _|exact ⟨_,rfl,WkV.int hi1⟩|exact ⟨_,rfl,WkV.eq (congrArg (fun z => AV.lst z (i + 2 + 1) (.ch 1)) e2)⟩|exact qas (qbh lN _) (by decide)|exact qak (qbh lN _)|exact qak lT|exact qak lV|exact kle rfl|exact bdq|exact mxI rfl|exact mxS rfl|apply And.intro))⟩
  ·refine qab (qa9 hi2) ?_
   conv => whnf
   refine .inl ?_
   conv => whnf
   have hiE:i = T.length :=by omega
   have eR:AV.lst (rwT r (nl (zl V)) (T.take i)) (i + 2) (.ch 1) = .lst (rwT r (nl (zl V)) T) (T.length + 2) (.ch 1) :=by rw [hiE,List.take_length]
   have eN2:Int.ofNat (i + 2) = Int.ofNat (T.length + 2) :=by rw [hiE]
   refine qar hE hS (A :=Nat) [] (fun i => [(33,.lst (rwT r (nl (zl V)) T) (T.length + 2) (.ch 1)),(34,nv (T.length + 2)),(8,.str (ouB (lnsT r V T) i)),(9,nv (ckN (lnsT r V T) i)),(35,nv i)]) (fun _ => []) (fun _ => []) (fun i => i ≤ T.length + 2) (fun i => T.length + 2 - i) 0 (kle rfl) rfl (by refine ⟨rfl,rfl,rfl,rfl,rfl,rfl,2,rfl,?_,?_⟩ <;> repeat' (first|exact trivial|exact rfl|exact wkr rfl|exact wko rfl|exact Nat.zero_le _|exact ⟨_,rfl,WkV.eq eR⟩|exact ⟨_,rfl,WkV.int eN2⟩|exact qas (qbh lN _) (by decide)|exact qak (qbh lN _)|exact qak lT|exact qak lV|exact kle rfl|exact bdq|exact mxI rfl|exact mxS rfl|apply And.intro)) (Nat.zero_le _) ?_
   intro i hi K hK
   obtain rfl:K = 2 :=hK
   conv => whnf
   by_cases hi2:i < T.length + 2
   ·have hi1:IntKind.i64.wrap (Int.ofNat i + 1) = Int.ofNat (i + 1) :=qav (m :=i + 1) (by omega)
    have hs :=sW i
    refine Or.elim (rl i hi2) (fun hr => ?_) fun hr => Or.elim hr (fun hr => ?_) fun hr => Or.elim hr (fun hr => ?_) fun hr => Exists.elim hr fun l9 hr => ?_
    all_goals
     have gr :=hr.1
     have pl :=hr.2
     have hw :=qdt sW i (by omega)
     repeat ((first|refine qaf (nthP gr) ?_|refine qah (qae hi2) ?_|refine qag (qae hi2) ?_|refine pkT (qae hi2) ?_|refine qaa (qae hi2) ?_|refine qam (qae hi2) ?_|refine qan (qae hi2) ?_|refine pkF (qae hi2) ?_|refine qab (qae hi2) ?_|refine qah (qai hi2) ?_|refine qag (qai hi2) ?_|refine pkT (qai hi2) ?_|refine qaa (qai hi2) ?_|refine qad hC (pl) ?_|refine qac hS (by kernel_rfl) ?_);conv => whnf)
     refine qar hE hS (A :=Nat) [33,34,8,10,12,35,43] (fun k => [(9,nv (ckN (lnsT r V T) i + ckL (gB (lnsT r V T) i) i k)),(44,nv k)]) (fun _ => []) (fun _ => []) (fun k => k ≤ (gB (lnsT r V T) i).length) (fun k => (gB (lnsT r V T) i).length - k) 0 (kle rfl) rfl (by refine ⟨rfl,rfl,rfl,rfl,rfl,rfl,2,rfl,?_,?_⟩ <;> repeat' (first|exact trivial|exact rfl|exact wkr rfl|exact wko rfl|exact Nat.zero_le _|exact qas (qbh lN _) (by decide)|exact qak (qbh lN _)|exact qak lT|exact qak lV|exact kle rfl|exact bdq|exact mxI rfl|exact mxS rfl|apply And.intro)) (Nat.zero_le _) ?_
     intro k hk K hK
     obtain rfl:K = 2 :=hK
     conv => whnf
     by_cases hk2:k < (gB (lnsT r V T) i).length
     ·have hk1:IntKind.i64.wrap (Int.ofNat k + 1) = Int.ofNat (k + 1) :=qav (m :=k + 1) (by omega)
      have hc :=qdu (s :=gB (lnsT r V T) i) (i :=i) (k :=k) (by omega) (by omega)
      have hb:((gB (lnsT r V T) i).getD k 0).toNat ≤ 256 :=Nat.le_of_lt (UInt8.toNat_lt _)
      have ew:_ = Int.ofNat (ckN (lnsT r V T) i + ckL (gB (lnsT r V T) i) i (k + 1)) :=(qdf (c :=ckN (lnsT r V T) i + ckL (gB (lnsT r V T) i) i k) (by omega) hb (show k ≤ 4000 by omega) (show i < 1000 by omega)).trans (by rw [ckL,Nat.add_assoc])
      repeat ((first|refine qaf (qch hk2) ?_|refine qah (qae hk2) ?_|refine qag (qae hk2) ?_|refine pkT (qae hk2) ?_|refine qaa (qae hk2) ?_|refine qam (qae hk2) ?_|refine qan (qae hk2) ?_|refine pkF (qae hk2) ?_|refine qab (qae hk2) ?_|refine qah (qai hk2) ?_|refine qag (qai hk2) ?_|refine pkT (qai hk2) ?_|refine qaa (qai hk2) ?_|refine qac hS (by kernel_rfl) ?_);conv => whnf)
      exact ⟨k + 1,hk2,by omega,Nat.le_refl _,(by refine ⟨rfl,rfl,rfl,rfl,rfl,rfl,2,rfl,?_,?_⟩ <;> repeat' (first|exact trivial|exact rfl|exact wkr rfl|exact wko rfl|exact Nat.zero_le _|exact ⟨_,rfl,WkV.int hk1⟩|exact ⟨_,rfl,WkV.int ew⟩|exact qas (qbh lN _) (by decide)|exact qak (qbh lN _)|exact qak lT|exact qak lV|exact kle rfl|exact bdq|exact mxI rfl|exact mxS rfl|apply And.intro))⟩
     ·refine qab (qa9 hk2) ?_
      conv => whnf
      refine .inl ?_
      conv => whnf
      have hkE:k = (gB (lnsT r V T) i).length :=by omega
      have o1 :=qb6 sW i
      have o2 :=qa0 hs (Nat.le_refl ([10]:List UInt8).length)
      have o3 :=qa0 o1 o2
      have o4:(ouB (lnsT r V T) i ++ (gB (lnsT r V T) i ++ [10])).length ≤ 100000000 :=by simp only [List.length_cons,List.length_nil] at o3;omega
      repeat ((first|refine qah (qaj (milB o2 rfl)) ?_|refine qag (qaj (milB o2 rfl)) ?_|refine pkT (qaj (milB o2 rfl)) ?_|refine qaa (qaj (milB o2 rfl)) ?_|refine qam (qaj (milB o2 rfl)) ?_|refine qan (qaj (milB o2 rfl)) ?_|refine pkF (qaj (milB o2 rfl)) ?_|refine qab (qaj (milB o2 rfl)) ?_|refine qah (qaj o4) ?_|refine qag (qaj o4) ?_|refine pkT (qaj o4) ?_|refine qaa (qaj o4) ?_|refine qam (qaj o4) ?_|refine qan (qaj o4) ?_|refine pkF (qaj o4) ?_|refine qab (qaj o4) ?_|refine qac hS (by kernel_rfl) ?_);conv => whnf)
      exact ⟨i + 1,hi2,by omega,Nat.le_refl _,(by refine ⟨rfl,rfl,rfl,rfl,rfl,rfl,2,rfl,?_,?_⟩ <;> repeat' (first|exact trivial|exact rfl|exact wkr rfl|exact wko rfl|exact Nat.zero_le _|exact ⟨_,rfl,WkV.int hi1⟩|exact ⟨_,rfl,WkV.int (show Int.ofNat (ckN (lnsT r V T) i + ckL (gB (lnsT r V T) i) i k) = Int.ofNat (ckN (lnsT r V T) (i + 1)) by rw [ckN,hkE])⟩|exact qas (qbh lN _) (by decide)|exact qak (qbh lN _)|exact qak lT|exact qak lV|exact kle rfl|exact bdq|exact mxI rfl|exact mxS rfl|apply And.intro))⟩
   ·have hiE2:i = (lnsT r V T).length :=by rw [qcf];omega
    have t :=qd6 (ckN (lnsT r V T) i)
    have hm :=Nat.mod_lt (ckN (lnsT r V T) i) (show 0 < 109 by decide)
    have p1 :=qck t.1 (by omega)
    have p2 :=qck t.2.1 (by omega)
    have p3 :=qck t.2.2 (by omega)
    have o1 :=qb6 sW i
    have o2:(ouB (lnsT r V T) i ++ [101,110,100,32]).length ≤ 5000000 :=by rw [List.length_append];show _ + 4 ≤ _;omega
    have o3 :=qa0 o2 (qbb (ckN (lnsT r V T) i % 109 / 100))
    have o4 :=qa0 o3 (qbb (ckN (lnsT r V T) i % 109 / 10 % 10))
    have o5 :=qa0 o4 (qbb (ckN (lnsT r V T) i % 109 % 10))
    have o6 :=qa0 o5 (Nat.le_refl ([10]:List UInt8).length)
    refine qab (qa9 hi2) ?_
    conv => whnf
    refine .inl ?_
    conv => whnf
    repeat ((first|refine qah (qaj (milB o2 rfl)) ?_|refine qag (qaj (milB o2 rfl)) ?_|refine pkT (qaj (milB o2 rfl)) ?_|refine qaa (qaj (milB o2 rfl)) ?_|refine qam (qaj (milB o2 rfl)) ?_|refine qan (qaj (milB o2 rfl)) ?_|refine pkF (qaj (milB o2 rfl)) ?_|refine qab (qaj (milB o2 rfl)) ?_|refine qah (qaj (milB o3 rfl)) ?_|refine qag (qaj (milB o3 rfl)) ?_|refine pkT (qaj (milB o3 rfl)) ?_|refine qaa (qaj (milB o3 rfl)) ?_|refine qam (qaj (milB o3 rfl)) ?_|refine qan (qaj (milB o3 rfl)) ?_|refine pkF (qaj (milB o3 rfl)) ?_|refine qab (qaj (milB o3 rfl)) ?_|refine qah (qaj (milB o4 rfl)) ?_|refine qag (qaj (milB o4 rfl)) ?_|refine pkT (qaj (milB o4 rfl)) ?_|refine qaa (qaj (milB o4 rfl)) ?_|refine qam (qaj (milB o4 rfl)) ?_|refine qan (qaj (milB o4 rfl)) ?_|refine pkF (qaj (milB o4 rfl)) ?_|refine qab (qaj (milB o4 rfl)) ?_|refine qah (qaj (milB o5 rfl)) ?_|refine qag (qaj (milB o5 rfl)) ?_|refine pkT (qaj (milB o5 rfl)) ?_|refine qaa (qaj (milB o5 rfl)) ?_|refine qam (qaj (milB o5 rfl)) ?_|refine qan (qaj (milB o5 rfl)) ?_|refine pkF (qaj (milB o5 rfl)) ?_|refine qab (qaj (milB o5 rfl)) ?_|refine qah (qaj (milB o6 rfl)) ?_|refine qag (qaj (milB o6 rfl)) ?_|refine pkT (qaj (milB o6 rfl)) ?_|refine qaa (qaj (milB o6 rfl)) ?_|refine qam (qaj (milB o6 rfl)) ?_|refine qan (qaj (milB o6 rfl)) ?_|refine pkF (qaj (milB o6 rfl)) ?_|refine qab (qaj (milB o6 rfl)) ?_|refine qad hC (p1) ?_|refine qad hC (p2) ?_|refine qad hC (p3) ?_|refine qac hS (by kernel_rfl) ?_);conv => whnf)
    exact ⟨_,rfl,wk_s (by unfold prtT finB;rw [← hiE2])⟩
theorem qtg {r:TrR} {V:List Nat} {T:List (List (Nat × Nat))} (o:okR r V T) (hw:ShW r V T) (h0:T = []):Pure prog 34 [.agg [nv r.1,nv r.2.1,nv r.2.2.1,nv r.2.2.2,nl (zl V)],.nils] (.str (prtT r V T)) :=by
 have hN:IL (nl (zl V)) (zl V) :=.inr rfl
 have lN:Live noL (nl (zl V)) :=hN.no
 have lT :=qcw T
 have lV :=qa5 (zl V)
 have hT :=hw.hT
 have sW :=hw.le
 have rl :=fun i => @qeb r (nl (zl V)) V T hN o hw i
 have eR:AV.lst [rwHd r (nl (zl V)),rwNv (nl (zl V))] 2 .full = .lst (rwT r (nl (zl V)) T) (T.length + 2) .full :=by rw [h0];rfl
 have eN2:Int.ofNat 2 = Int.ofNat (T.length + 2) :=by rw [h0];rfl
 refine qap hE rfl (by repeat' first|exact trivial|assumption|exact qal _|exact fun _ h => nomatch h|apply And.intro) (by repeat' first|exact trivial|assumption|exact qal _|exact fun _ h => nomatch h|apply And.intro) fun S q pc hS hq hC hE => ?_
 conv => whnf
 refine qao hE hS ?_
 conv => whnf
 repeat ((first|refine qac hS (by kernel_rfl) ?_);conv => whnf)
 refine qar hE hS (A :=Nat) [] (fun i => [(33,.lst (rwT r (nl (zl V)) T) (T.length + 2) .full),(34,nv (T.length + 2)),(8,.str (ouB (lnsT r V T) i)),(9,nv (ckN (lnsT r V T) i)),(35,nv i)]) (fun _ => []) (fun _ => []) (fun i => i ≤ T.length + 2) (fun i => T.length + 2 - i) 0 (kle rfl) rfl (by refine ⟨rfl,rfl,rfl,rfl,rfl,rfl,1,rfl,?_,?_⟩ <;> repeat' (first|exact trivial|exact rfl|exact wkr rfl|exact wko rfl|exact Nat.zero_le _|exact ⟨_,rfl,WkV.eq eR⟩|exact ⟨_,rfl,WkV.int eN2⟩|exact qas (qbh lN _) (by decide)|exact qak (qbh lN _)|exact qak lT|exact qak lV|exact kle rfl|exact bdq|exact mxI rfl|exact mxS rfl|apply And.intro)) (Nat.zero_le _) ?_
 intro i hi K hK
 obtain rfl:K = 1 :=hK
 conv => whnf
 by_cases hi2:i < T.length + 2
 ·have hi1:IntKind.i64.wrap (Int.ofNat i + 1) = Int.ofNat (i + 1) :=qav (m :=i + 1) (by omega)
  have hs :=sW i
  refine Or.elim (rl i hi2) (fun hr => ?_) fun hr => Or.elim hr (fun hr => ?_) fun hr => Or.elim hr (fun hr => ?_) fun hr => Exists.elim hr fun l9 hr => ?_
  all_goals
   have gr :=hr.1
   have pl :=hr.2
   have hw :=qdt sW i (by omega)
   repeat ((first|refine qaf (nthP gr) ?_|refine qah (qae hi2) ?_|refine qag (qae hi2) ?_|refine pkT (qae hi2) ?_|refine qaa (qae hi2) ?_|refine qam (qae hi2) ?_|refine qan (qae hi2) ?_|refine pkF (qae hi2) ?_|refine qab (qae hi2) ?_|refine qah (qai hi2) ?_|refine qag (qai hi2) ?_|refine pkT (qai hi2) ?_|refine qaa (qai hi2) ?_|refine qad hC (pl) ?_|refine qac hS (by kernel_rfl) ?_);conv => whnf)
   refine qar hE hS (A :=Nat) [33,34,8,10,12,35,43] (fun k => [(9,nv (ckN (lnsT r V T) i + ckL (gB (lnsT r V T) i) i k)),(44,nv k)]) (fun _ => []) (fun _ => []) (fun k => k ≤ (gB (lnsT r V T) i).length) (fun k => (gB (lnsT r V T) i).length - k) 0 (kle rfl) rfl (by refine ⟨rfl,rfl,rfl,rfl,rfl,rfl,1,rfl,?_,?_⟩ <;> repeat' (first|exact trivial|exact rfl|exact wkr rfl|exact wko rfl|exact Nat.zero_le _|exact qas (qbh lN _) (by decide)|exact qak (qbh lN _)|exact qak lT|exact qak lV|exact kle rfl|exact bdq|exact mxI rfl|exact mxS rfl|apply And.intro)) (Nat.zero_le _) ?_
   intro k hk K hK
   obtain rfl:K = 1 :=hK
   conv => whnf
   by_cases hk2:k < (gB (lnsT r V T) i).length
   ·have hk1:IntKind.i64.wrap (Int.ofNat k + 1) = Int.ofNat (k + 1) :=qav (m :=k + 1) (by omega)
    have hc :=qdu (s :=gB (lnsT r V T) i) (i :=i) (k :=k) (by omega) (by omega)
    have hb:((gB (lnsT r V T) i).getD k 0).toNat ≤ 256 :=Nat.le_of_lt (UInt8.toNat_lt _)
    have ew:_ = Int.ofNat (ckN (lnsT r V T) i + ckL (gB (lnsT r V T) i) i (k + 1)) :=(qdf (c :=ckN (lnsT r V T) i + ckL (gB (lnsT r V T) i) i k) (by omega) hb (show k ≤ 4000 by omega) (show i < 1000 by omega)).trans (by rw [ckL,Nat.add_assoc])
    repeat ((first|refine qaf (qch hk2) ?_|refine qah (qae hk2) ?_|refine qag (qae hk2) ?_|refine pkT (qae hk2) ?_|refine qaa (qae hk2) ?_|refine qam (qae hk2) ?_|refine qan (qae hk2) ?_|refine pkF (qae hk2) ?_|refine qab (qae hk2) ?_|refine qah (qai hk2) ?_|refine qag (qai hk2) ?_|refine pkT (qai hk2) ?_|refine qaa (qai hk2) ?_|refine qac hS (by kernel_rfl) ?_);conv => whnf)
    exact ⟨k + 1,hk2,by omega,Nat.le_refl _,(by refine ⟨rfl,rfl,rfl,rfl,rfl,rfl,1,rfl,?_,?_⟩ <;> repeat' (first|exact trivial|exact rfl|exact wkr rfl|exact wko rfl|exact Nat.zero_le _|exact ⟨_,rfl,WkV.int hk1⟩|exact ⟨_,rfl,WkV.int ew⟩|exact qas (qbh lN _) (by decide)|exact qak (qbh lN _)|exact qak lT|exact qak lV|exact kle rfl|exact bdq|exact mxI rfl|exact mxS rfl|apply And.intro))⟩
   ·refine qab (qa9 hk2) ?_
    conv => whnf
    refine .inl ?_
    conv => whnf
    have hkE:k = (gB (lnsT r V T) i).length :=by omega
    have o1 :=qb6 sW i
    have o2 :=qa0 hs (Nat.le_refl ([10]:List UInt8).length)
    have o3 :=qa0 o1 o2
    have o4:(ouB (lnsT r V T) i ++ (gB (lnsT r V T) i ++ [10])).length ≤ 100000000 :=by simp only [List.length_cons,List.length_nil] at o3;omega
    repeat ((first|refine qah (qaj (milB o2 rfl)) ?_|refine qag (qaj (milB o2 rfl)) ?_|refine pkT (qaj (milB o2 rfl)) ?_|refine qaa (qaj (milB o2 rfl)) ?_|refine qam (qaj (milB o2 rfl)) ?_|refine qan (qaj (milB o2 rfl)) ?_|refine pkF (qaj (milB o2 rfl)) ?_|refine qab (qaj (milB o2 rfl)) ?_|refine qah (qaj o4) ?_|refine qag (qaj o4) ?_|refine pkT (qaj o4) ?_|refine qaa (qaj o4) ?_|refine qam (qaj o4) ?_|refine qan (qaj o4) ?_|refine pkF (qaj o4) ?_|refine qab (qaj o4) ?_|refine qac hS (by kernel_rfl) ?_);conv => whnf)
    exact ⟨i + 1,hi2,by omega,Nat.le_refl _,(by refine ⟨rfl,rfl,rfl,rfl,rfl,rfl,1,rfl,?_,?_⟩ <;> repeat' (first|exact trivial|exact rfl|exact wkr rfl|exact wko rfl|exact Nat.zero_le _|exact ⟨_,rfl,WkV.int hi1⟩|exact ⟨_,rfl,WkV.int (show Int.ofNat (ckN (lnsT r V T) i + ckL (gB (lnsT r V T) i) i k) = Int.ofNat (ckN (lnsT r V T) (i + 1)) by rw [ckN,hkE])⟩|exact qas (qbh lN _) (by decide)|exact qak (qbh lN _)|exact qak lT|exact qak lV|exact kle rfl|exact bdq|exact mxI rfl|exact mxS rfl|apply And.intro))⟩
 ·have hiE2:i = (lnsT r V T).length :=by rw [qcf];omega
  have t :=qd6 (ckN (lnsT r V T) i)
  have hm :=Nat.mod_lt (ckN (lnsT r V T) i) (show 0 < 109 by decide)
  have p1 :=qck t.1 (by omega)
  have p2 :=qck t.2.1 (by omega)
  have p3 :=qck t.2.2 (by omega)
  have o1 :=qb6 sW i
  have o2:(ouB (lnsT r V T) i ++ [101,110,100,32]).length ≤ 5000000 :=by rw [List.length_append];show _ + 4 ≤ _;omega
  have o3 :=qa0 o2 (qbb (ckN (lnsT r V T) i % 109 / 100))
  have o4 :=qa0 o3 (qbb (ckN (lnsT r V T) i % 109 / 10 % 10))
  have o5 :=qa0 o4 (qbb (ckN (lnsT r V T) i % 109 % 10))
  have o6 :=qa0 o5 (Nat.le_refl ([10]:List UInt8).length)
  refine qab (qa9 hi2) ?_
  conv => whnf
  refine .inl ?_
  conv => whnf
  repeat ((first|refine qah (qaj (milB o2 rfl)) ?_|refine qag (qaj (milB o2 rfl)) ?_|refine pkT (qaj (milB o2 rfl)) ?_|refine qaa (qaj (milB o2 rfl)) ?_|refine qam (qaj (milB o2 rfl)) ?_|refine qan (qaj (milB o2 rfl)) ?_|refine pkF (qaj (milB o2 rfl)) ?_|refine qab (qaj (milB o2 rfl)) ?_|refine qah (qaj (milB o3 rfl)) ?_|refine qag (qaj (milB o3 rfl)) ?_|refine pkT (qaj (milB o3 rfl)) ?_|refine qaa (qaj (milB o3 rfl)) ?_|refine qam (qaj (milB o3 rfl)) ?_|refine qan (qaj (milB o3 rfl)) ?_|refine pkF (qaj (milB o3 rfl)) ?_|refine qab (qaj (milB o3 rfl)) ?_|refine qah (qaj (milB o4 rfl)) ?_|refine qag (qaj (milB o4 rfl)) ?_|refine pkT (qaj (milB o4 rfl)) ?_|refine qaa (qaj (milB o4 rfl)) ?_|refine qam (qaj (milB o4 rfl)) ?_|refine qan (qaj (milB o4 rfl)) ?_|refine pkF (qaj (milB o4 rfl)) ?_|refine qab (qaj (milB o4 rfl)) ?_|refine qah (qaj (milB o5 rfl)) ?_|refine qag (qaj (milB o5 rfl)) ?_|refine pkT (qaj (milB o5 rfl)) ?_|refine qaa (qaj (milB o5 rfl)) ?_|refine qam (qaj (milB o5 rfl)) ?_|refine qan (qaj (milB o5 rfl)) ?_|refine pkF (qaj (milB o5 rfl)) ?_|refine qab (qaj (milB o5 rfl)) ?_|refine qah (qaj (milB o6 rfl)) ?_|refine qag (qaj (milB o6 rfl)) ?_|refine pkT (qaj (milB o6 rfl)) ?_|refine qaa (qaj (milB o6 rfl)) ?_|refine qam (qaj (milB o6 rfl)) ?_|refine qan (qaj (milB o6 rfl)) ?_|refine pkF (qaj (milB o6 rfl)) ?_|refine qab (qaj (milB o6 rfl)) ?_|refine qad hC (p1) ?_|refine qad hC (p2) ?_|refine qad hC (p3) ?_|refine qac hS (by kernel_rfl) ?_);conv => whnf)
  exact ⟨_,rfl,wk_s (by unfold prtT finB;rw [← hiE2])⟩
theorem qte {r:TrR} {V:List Nat} {T:List (List (Nat × Nat))} (o:okR r V T) (hw:ShW r V T) (h0:T = []):Pure prog 34 [.agg [nv r.1,nv r.2.1,nv r.2.2.1,nv r.2.2.2,nl (zl V)],.lst [] 0 .no] (.str (prtT r V T)) :=by
 have hN:IL (nl (zl V)) (zl V) :=.inr rfl
 have lN:Live noL (nl (zl V)) :=hN.no
 have lT :=qcw T
 have lV :=qa5 (zl V)
 have hT :=hw.hT
 have sW :=hw.le
 have rl :=fun i => @qeb r (nl (zl V)) V T hN o hw i
 have eR:AV.lst [rwHd r (nl (zl V)),rwNv (nl (zl V))] 2 .full = .lst (rwT r (nl (zl V)) T) (T.length + 2) .full :=by rw [h0];rfl
 have eN2:Int.ofNat 2 = Int.ofNat (T.length + 2) :=by rw [h0];rfl
 refine qap hE rfl (by repeat' first|exact trivial|assumption|exact qal _|exact fun _ h => nomatch h|apply And.intro) (by repeat' first|exact trivial|assumption|exact qal _|exact fun _ h => nomatch h|apply And.intro) fun S q pc hS hq hC hE => ?_
 conv => whnf
 refine qao hE hS ?_
 conv => whnf
 repeat ((first|refine qac hS (by kernel_rfl) ?_);conv => whnf)
 refine qar hE hS (A :=Nat) [] (fun i => [(33,.lst (rwT r (nl (zl V)) T) (T.length + 2) .full),(34,nv (T.length + 2)),(8,.str (ouB (lnsT r V T) i)),(9,nv (ckN (lnsT r V T) i)),(35,nv i)]) (fun _ => []) (fun _ => []) (fun i => i ≤ T.length + 2) (fun i => T.length + 2 - i) 0 (kle rfl) rfl (by refine ⟨rfl,rfl,rfl,rfl,rfl,rfl,1,rfl,?_,?_⟩ <;> repeat' (first|exact trivial|exact rfl|exact wkr rfl|exact wko rfl|exact Nat.zero_le _|exact ⟨_,rfl,WkV.eq eR⟩|exact ⟨_,rfl,WkV.int eN2⟩|exact qas (qbh lN _) (by decide)|exact qak (qbh lN _)|exact qak lT|exact qak lV|exact kle rfl|exact bdq|exact mxI rfl|exact mxS rfl|apply And.intro)) (Nat.zero_le _) ?_
 intro i hi K hK
 obtain rfl:K = 1 :=hK
 conv => whnf
 by_cases hi2:i < T.length + 2
 ·have hi1:IntKind.i64.wrap (Int.ofNat i + 1) = Int.ofNat (i + 1) :=qav (m :=i + 1) (by omega)
  have hs :=sW i
  refine Or.elim (rl i hi2) (fun hr => ?_) fun hr => Or.elim hr (fun hr => ?_) fun hr => Or.elim hr (fun hr => ?_) fun hr => Exists.elim hr fun l9 hr => ?_
  all_goals
   have gr :=hr.1
   have pl :=hr.2
   have hw :=qdt sW i (by omega)
   repeat ((first|refine qaf (nthP gr) ?_|refine qah (qae hi2) ?_|refine qag (qae hi2) ?_|refine pkT (qae hi2) ?_|refine qaa (qae hi2) ?_|refine qam (qae hi2) ?_|refine qan (qae hi2) ?_|refine pkF (qae hi2) ?_|refine qab (qae hi2) ?_|refine qah (qai hi2) ?_|refine qag (qai hi2) ?_|refine pkT (qai hi2) ?_|refine qaa (qai hi2) ?_|refine qad hC (pl) ?_|refine qac hS (by kernel_rfl) ?_);conv => whnf)
   refine qar hE hS (A :=Nat) [33,34,8,10,12,35,43] (fun k => [(9,nv (ckN (lnsT r V T) i + ckL (gB (lnsT r V T) i) i k)),(44,nv k)]) (fun _ => []) (fun _ => []) (fun k => k ≤ (gB (lnsT r V T) i).length) (fun k => (gB (lnsT r V T) i).length - k) 0 (kle rfl) rfl (by refine ⟨rfl,rfl,rfl,rfl,rfl,rfl,1,rfl,?_,?_⟩ <;> repeat' (first|exact trivial|exact rfl|exact wkr rfl|exact wko rfl|exact Nat.zero_le _|exact qas (qbh lN _) (by decide)|exact qak (qbh lN _)|exact qak lT|exact qak lV|exact kle rfl|exact bdq|exact mxI rfl|exact mxS rfl|apply And.intro)) (Nat.zero_le _) ?_
   intro k hk K hK
   obtain rfl:K = 1 :=hK
   conv => whnf
   by_cases hk2:k < (gB (lnsT r V T) i).length
   ·have hk1:IntKind.i64.wrap (Int.ofNat k + 1) = Int.ofNat (k + 1) :=qav (m :=k + 1) (by omega)
    have hc :=qdu (s :=gB (lnsT r V T) i) (i :=i) (k :=k) (by omega) (by omega)
    have hb:((gB (lnsT r V T) i).getD k 0).toNat ≤ 256 :=Nat.le_of_lt (UInt8.toNat_lt _)
    have ew:_ = Int.ofNat (ckN (lnsT r V T) i + ckL (gB (lnsT r V T) i) i (k + 1)) :=(qdf (c :=ckN (lnsT r V T) i + ckL (gB (lnsT r V T) i) i k) (by omega) hb (show k ≤ 4000 by omega) (show i < 1000 by omega)).trans (by rw [ckL,Nat.add_assoc])
    repeat ((first|refine qaf (qch hk2) ?_|refine qah (qae hk2) ?_|refine qag (qae hk2) ?_|refine pkT (qae hk2) ?_|refine qaa (qae hk2) ?_|refine qam (qae hk2) ?_|refine qan (qae hk2) ?_|refine pkF (qae hk2) ?_|refine qab (qae hk2) ?_|refine qah (qai hk2) ?_|refine qag (qai hk2) ?_|refine pkT (qai hk2) ?_|refine qaa (qai hk2) ?_|refine qac hS (by kernel_rfl) ?_);conv => whnf)
    exact ⟨k + 1,hk2,by omega,Nat.le_refl _,(by refine ⟨rfl,rfl,rfl,rfl,rfl,rfl,1,rfl,?_,?_⟩ <;> repeat' (first|exact trivial|exact rfl|exact wkr rfl|exact wko rfl|exact Nat.zero_le _|exact ⟨_,rfl,WkV.int hk1⟩|exact ⟨_,rfl,WkV.int ew⟩|exact qas (qbh lN _) (by decide)|exact qak (qbh lN _)|exact qak lT|exact qak lV|exact kle rfl|exact bdq|exact mxI rfl|exact mxS rfl|apply And.intro))⟩
   ·refine qab (qa9 hk2) ?_
    conv => whnf
    refine .inl ?_
    conv => whnf
    have hkE:k = (gB (lnsT r V T) i).length :=by omega
    have o1 :=qb6 sW i
    have o2 :=qa0 hs (Nat.le_refl ([10]:List UInt8).length)
    have o3 :=qa0 o1 o2
    have o4:(ouB (lnsT r V T) i ++ (gB (lnsT r V T) i ++ [10])).length ≤ 100000000 :=by simp only [List.length_cons,List.length_nil] at o3;omega
    repeat ((first|refine qah (qaj (milB o2 rfl)) ?_|refine qag (qaj (milB o2 rfl)) ?_|refine pkT (qaj (milB o2 rfl)) ?_|refine qaa (qaj (milB o2 rfl)) ?_|refine qam (qaj (milB o2 rfl)) ?_|refine qan (qaj (milB o2 rfl)) ?_|refine pkF (qaj (milB o2 rfl)) ?_|refine qab (qaj (milB o2 rfl)) ?_|refine qah (qaj o4) ?_|refine qag (qaj o4) ?_|refine pkT (qaj o4) ?_|refine qaa (qaj o4) ?_|refine qam (qaj o4) ?_|refine qan (qaj o4) ?_|refine pkF (qaj o4) ?_|refine qab (qaj o4) ?_|refine qac hS (by kernel_rfl) ?_);conv => whnf)
    exact ⟨i + 1,hi2,by omega,Nat.le_refl _,(by refine ⟨rfl,rfl,rfl,rfl,rfl,rfl,1,rfl,?_,?_⟩ <;> repeat' (first|exact trivial|exact rfl|exact wkr rfl|exact wko rfl|exact Nat.zero_le _|exact ⟨_,rfl,WkV.int hi1⟩|exact ⟨_,rfl,WkV.int (show Int.ofNat (ckN (lnsT r V T) i + ckL (gB (lnsT r V T) i) i k) = Int.ofNat (ckN (lnsT r V T) (i + 1)) by rw [ckN,hkE])⟩|exact qas (qbh lN _) (by decide)|exact qak (qbh lN _)|exact qak lT|exact qak lV|exact kle rfl|exact bdq|exact mxI rfl|exact mxS rfl|apply And.intro))⟩
 ·have hiE2:i = (lnsT r V T).length :=by rw [qcf];omega
  have t :=qd6 (ckN (lnsT r V T) i)
  have hm :=Nat.mod_lt (ckN (lnsT r V T) i) (show 0 < 109 by decide)
  have p1 :=qck t.1 (by omega)
  have p2 :=qck t.2.1 (by omega)
  have p3 :=qck t.2.2 (by omega)
  have o1 :=qb6 sW i
  have o2:(ouB (lnsT r V T) i ++ [101,110,100,32]).length ≤ 5000000 :=by rw [List.length_append];show _ + 4 ≤ _;omega
  have o3 :=qa0 o2 (qbb (ckN (lnsT r V T) i % 109 / 100))
  have o4 :=qa0 o3 (qbb (ckN (lnsT r V T) i % 109 / 10 % 10))
  have o5 :=qa0 o4 (qbb (ckN (lnsT r V T) i % 109 % 10))
  have o6 :=qa0 o5 (Nat.le_refl ([10]:List UInt8).length)
  refine qab (qa9 hi2) ?_
  conv => whnf
  refine .inl ?_
  conv => whnf
  repeat ((first|refine qah (qaj (milB o2 rfl)) ?_|refine qag (qaj (milB o2 rfl)) ?_|refine pkT (qaj (milB o2 rfl)) ?_|refine qaa (qaj (milB o2 rfl)) ?_|refine qam (qaj (milB o2 rfl)) ?_|refine qan (qaj (milB o2 rfl)) ?_|refine pkF (qaj (milB o2 rfl)) ?_|refine qab (qaj (milB o2 rfl)) ?_|refine qah (qaj (milB o3 rfl)) ?_|refine qag (qaj (milB o3 rfl)) ?_|refine pkT (qaj (milB o3 rfl)) ?_|refine qaa (qaj (milB o3 rfl)) ?_|refine qam (qaj (milB o3 rfl)) ?_|refine qan (qaj (milB o3 rfl)) ?_|refine pkF (qaj (milB o3 rfl)) ?_|refine qab (qaj (milB o3 rfl)) ?_|refine qah (qaj (milB o4 rfl)) ?_|refine qag (qaj (milB o4 rfl)) ?_|refine pkT (qaj (milB o4 rfl)) ?_|refine qaa (qaj (milB o4 rfl)) ?_|refine qam (qaj (milB o4 rfl)) ?_|refine qan (qaj (milB o4 rfl)) ?_|refine pkF (qaj (milB o4 rfl)) ?_|refine qab (qaj (milB o4 rfl)) ?_|refine qah (qaj (milB o5 rfl)) ?_|refine qag (qaj (milB o5 rfl)) ?_|refine pkT (qaj (milB o5 rfl)) ?_|refine qaa (qaj (milB o5 rfl)) ?_|refine qam (qaj (milB o5 rfl)) ?_|refine qan (qaj (milB o5 rfl)) ?_|refine pkF (qaj (milB o5 rfl)) ?_|refine qab (qaj (milB o5 rfl)) ?_|refine qah (qaj (milB o6 rfl)) ?_|refine qag (qaj (milB o6 rfl)) ?_|refine pkT (qaj (milB o6 rfl)) ?_|refine qaa (qaj (milB o6 rfl)) ?_|refine qam (qaj (milB o6 rfl)) ?_|refine qan (qaj (milB o6 rfl)) ?_|refine pkF (qaj (milB o6 rfl)) ?_|refine qab (qaj (milB o6 rfl)) ?_|refine qad hC (p1) ?_|refine qad hC (p2) ?_|refine qad hC (p3) ?_|refine qac hS (by kernel_rfl) ?_);conv => whnf)
  exact ⟨_,rfl,wk_s (by unfold prtT finB;rw [← hiE2])⟩
def TQ (X:AV) (T:List (List (Nat × Nat))):Prop :=X = .nils ∧ T = [] ∨ X = .lst (xqs T) T.length .no
theorem TQ.no {X:AV} {T:List (List (Nat × Nat))} (h:TQ X T):Live noL X :=by
 rcases h with ⟨rfl,_⟩ | rfl
 ·trivial
 ·exact ⟨qcw T,fun _ e => nomatch e⟩
theorem qif {r:TrR} {N X:AV} {V:List Nat} {T:List (List (Nat × Nat))} (hN:IL N (zl V)) (hX:TQ X T) (o:okR r V T) (hw:ShW r V T):Pure prog 34 [.agg [nv r.1,nv r.2.1,nv r.2.2.1,nv r.2.2.2,N],X] (.str (prtT r V T)) :=by
 rcases hN with ⟨rfl,e⟩ | rfl
 ·have hV:V = [] :=List.map_eq_nil_iff.1 e
  rcases hX with ⟨rfl,e1⟩ | rfl
  ·exact qth hV o hw e1
  ·by_cases h1:1 ≤ T.length
   ·exact qtd hV o hw h1
   ·obtain rfl :=List.eq_nil_of_length_eq_zero (show T.length = 0 by omega)
    exact qtf hV o hw rfl
 ·rcases hX with ⟨rfl,e1⟩ | rfl
  ·exact qtg o hw e1
  ·by_cases h1:1 ≤ T.length
   ·exact qtc o hw h1
   ·obtain rfl :=List.eq_nil_of_length_eq_zero (show T.length = 0 by omega)
    exact qte o hw rfl
end
end Go.Abs.Seat
