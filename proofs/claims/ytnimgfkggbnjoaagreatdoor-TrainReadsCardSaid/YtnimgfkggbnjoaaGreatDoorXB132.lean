/-
  The text of a rule with trains, as the program writes it.
-/
import Derived.Test.YtnimgfkggbnjoaaGreatDoorXU12
namespace Go.Abs.Seat
noncomputable section
open Go Go.Abs Go.Proofs.Tryz
set_option maxRecDepth 100000
set_option maxHeartbeats 40000000
attribute [local irreducible] IntKind.wrap pEq
def xqV (t:List (Nat × Nat)):AV :=if t = [] then .nils else pv (zp t)
def xqs (T:List (List (Nat × Nat))):List AV :=T.map xqV
theorem qvm (t:List (Nat × Nat)):Live noL (xqV t) :=by
 unfold xqV
 split
 ·trivial
 ·exact qyv _
theorem qvn (t:List (Nat × Nat)):PQ (xqV t) (zp t) :=by
 unfold xqV
 split
 ·rename_i e;exact .inl ⟨rfl,by rw [e];rfl⟩
 ·exact .inr rfl
theorem qdt:∀ T,Lives noL (xqs T)
 | [] => trivial
 |t :: r => ⟨qvm t,qdt r⟩
theorem qwq (T:List (List (Nat × Nat))):(xqs T).length = T.length :=List.length_map _
theorem qgj (T:List (List (Nat × Nat))) {i:Nat} (h:i < T.length):nth (xqs T) (i * 1) = some (xqV (gT T i)) :=by
 rw [qfx,Nat.mul_one]
 unfold xqs gT
 rw [List.getElem?_map,List.getElem?_eq_getElem h]
 simp [List.getD,h]
theorem qg1 (T:List (List (Nat × Nat))) {i:Nat} (h:i < T.length):T.take (i + 1) = T.take i ++ [gT T i] :=by
 rw [List.take_succ_eq_append_getElem h]
 simp [gT,List.getD,h]
theorem qh4 (t:List (Nat × Nat)):xqV t = .nils ∨ ∃ l,xqV t = pv l :=by
 unfold xqV
 split
 ·exact .inl rfl
 ·exact .inr ⟨_,rfl⟩
abbrev rwHd (r:TrR) (N:AV):AV :=.iface 134 (.agg [nv r.1,nv r.2.1,nv r.2.2.1,nv r.2.2.2,N])
abbrev rwNv (N:AV):AV :=.iface 135 N
def rwTr (t:List (Nat × Nat)):AV :=.iface 137 (xqV t)
def rwT (r:TrR) (N:AV) (T:List (List (Nat × Nat))):List AV :=rwHd r N :: rwNv N :: T.map rwTr
theorem qn0 {r:TrR} {N:AV} (hN:Live noL N) (T:List (List (Nat × Nat))):Lives noL (rwT r N T) :=by
 refine ⟨⟨trivial,trivial,trivial,trivial,hN,trivial⟩,hN,?_⟩
 induction T with
 |nil => trivial
 |cons x r ih => exact ⟨qvm x,ih⟩
theorem qww (r:TrR) (N:AV) (T:List (List (Nat × Nat))):(rwT r N T).length = T.length + 2 :=by
 unfold rwT
 rw [List.length_cons,List.length_cons,List.length_map]
theorem qwx (r:TrR) (N:AV) (T:List (List (Nat × Nat))) {i:Nat} (h:i < T.length):rwT r N (T.take i) ++ [rwTr (gT T i)] = rwT r N (T.take (i + 1)) :=by
 rw [qg1 T h]
 unfold rwT
 simp
theorem qlo {r:TrR} {N:AV} {T:List (List (Nat × Nat))} {n:Nat} (h:T.length + 2 = n):qen (rwT r N T) (n * 1) = true :=by
 rw [Nat.mul_one,← h,← qww r N T]
 exact qe1 _
structure ShW (r:TrR) (V:List Nat) (T:List (List (Nat × Nat))):Prop where
 hV:V.length ≤ 900
 hT:T.length ≤ 900
 ht:∀ t,t ∈ T → t.length ≤ 450
theorem ShW.le {r:TrR} {V:List Nat} {T:List (List (Nat × Nat))} (h:ShW r V T) (j:Nat):(gB (lnsT r V T) j).length ≤ 4000 :=by
 by_cases k:j < (lnsT r V T).length
 ·have e:gB (lnsT r V T) j = (lnsT r V T)[j] :=by simp [gB,List.getD,k]
  rw [e]
  have hw :=List.getElem_mem k
  generalize (lnsT r V T)[j] = w at hw
  rcases List.mem_cons.1 hw with rfl | hw
  ·exact Nat.le_trans (qm4 r) (by decide)
  ·rcases List.mem_cons.1 hw with rfl | hw
   ·have k :=qfz V qct
    have e:qct.length = 5 :=rfl
    have :=h.hV
    omega
   ·obtain ⟨t,ht,rfl⟩ :=List.mem_map.1 hw
    have k :=qfz (flN t) qdj
    have e:qdj.length = 5 :=rfl
    have :=h.ht t ht
    rw [qbi] at k
    unfold lnT
    omega
 ·have e:gB (lnsT r V T) j = [] :=by simp [gB,List.getD,k]
  rw [e];exact Nat.zero_le _
theorem qer {s:List UInt8} {i k:Nat} (hk:k ≤ 4000) (hi:i < 1000):ckL s i k ≤ 4096000000000 :=by
 refine Nat.le_trans (qwj k) ?_
 have h1:k * (i + 1) ≤ 4000 * 1000 :=Nat.mul_le_mul hk (by omega)
 have h2:256 * (k * (i + 1)) ≤ 256 * 4000000 :=Nat.mul_le_mul_left _ h1
 exact Nat.le_trans (Nat.mul_le_mul hk h2) (by decide)
theorem qeq {l:List (List UInt8)} (h:∀ j,(gB l j).length ≤ 4000):∀ i,i ≤ 1000 → ckN l i ≤ i * 4096000000000
 | 0,_ => Nat.zero_le _
 |i + 1,hi => by
  have ih :=qeq h i (by omega)
  rw [ckN]
  have :=qer (s :=gB l i) (i :=i) (h i) (by omega)
  omega
theorem qc3 {l:List (List UInt8)} (h:∀ j,(gB l j).length ≤ 4000):∀ i,(ouB l i).length ≤ i * 4001
 | 0 => Nat.le_refl _
 |i + 1 => by
  have ih :=qc3 h i
  have :=h i
  rw [ouB,List.length_append,List.length_append]
  show _ + (_ + 1) ≤ _
  omega
theorem qec {c b k i:Nat} (hc:c ≤ 5000000000000000) (hb:b ≤ 256) (hk:k ≤ 4000) (hi:i < 1000):IntKind.i64.wrap (Int.ofNat c + IntKind.i64.wrap (IntKind.i64.wrap (IntKind.i64.wrap (Int.ofNat b) * IntKind.i64.wrap (Int.ofNat k + 1)) * IntKind.i64.wrap (Int.ofNat i + 1))) = Int.ofNat (c + b * (k + 1) * (i + 1)) :=by
 have h1:b * (k + 1) ≤ 256 * 4001 :=Nat.mul_le_mul hb (by omega)
 have h2:b * (k + 1) * (i + 1) ≤ 256 * 4001 * 1000 :=Nat.mul_le_mul h1 (by omega)
 rw [show IntKind.i64.wrap (Int.ofNat k + 1) = Int.ofNat (k + 1) from qbr (m :=k + 1) (by omega),show IntKind.i64.wrap (Int.ofNat i + 1) = Int.ofNat (i + 1) from qbr (m :=i + 1) (by omega)]
 rw [show IntKind.i64.wrap (Int.ofNat b) = Int.ofNat b from qbr (m :=b) (by omega)]
 rw [show IntKind.i64.wrap (Int.ofNat b * Int.ofNat (k + 1)) = Int.ofNat (b * (k + 1)) from qbr (m :=b * (k + 1)) (by omega)]
 rw [show IntKind.i64.wrap (Int.ofNat (b * (k + 1)) * Int.ofNat (i + 1)) = Int.ofNat (b * (k + 1) * (i + 1)) from qbr (m :=b * (k + 1) * (i + 1)) (by omega)]
 exact qbr (m :=c + b * (k + 1) * (i + 1)) (by omega)
theorem qb5 {a b:List UInt8} (h:(a ++ b).length ≤ 100000000):decide (a.length + b.length ≤ qev) = true :=decide_eq_true (by rw [List.length_append] at h;unfold qev;omega)
theorem milB {a m:Nat} (h:a ≤ m) (hm:Nat.ble m 100000000 = true):a ≤ 100000000 :=Nat.le_trans h (Nat.le_of_ble_eq_true hm)
theorem qe4 (c:Nat):IntKind.i64.wrap ((Int.tmod (Int.ofNat c) 109).tdiv 100) = Int.ofNat (c % 109 / 100) ∧ (IntKind.i64.wrap ((Int.tmod (Int.ofNat c) 109).tdiv 10)).tmod 10 = Int.ofNat (c % 109 / 10 % 10) ∧ (Int.tmod (Int.ofNat c) 109).tmod 10 = Int.ofNat (c % 109 % 10) :=by
 have h :=Nat.mod_lt c (show 0 < 109 by decide)
 refine ⟨qbr (m :=c % 109 / 100) (by omega),?_,rfl⟩
 rw [show IntKind.i64.wrap ((Int.tmod (Int.ofNat c) 109).tdiv 10) = Int.ofNat (c % 109 / 10) from qbr (m :=c % 109 / 10) (by omega)]
 rfl
theorem qe9 {r:TrR} {N:AV} {V:List Nat} {T:List (List (Nat × Nat))} (hN:IL N (zl V)) (o:okR r V T) (hw:ShW r V T) {i:Nat} (hi:i < T.length + 2) :
  (nth (rwT r N T) (i * 1) = some (rwHd r N) ∧ Pure prog 82 [rwHd r N] (.str (gB (lnsT r V T) i))) ∨ (nth (rwT r N T) (i * 1) = some (rwNv N) ∧ Pure prog 82 [rwNv N] (.str (gB (lnsT r V T) i))) ∨ (nth (rwT r N T) (i * 1) = some (.iface 137 .nils) ∧ Pure prog 82 [.iface 137 .nils] (.str (gB (lnsT r V T) i))) ∨ (∃ l,nth (rwT r N T) (i * 1) = some (.iface 137 (pv l)) ∧ Pure prog 82 [.iface 137 (pv l)] (.str (gB (lnsT r V T) i))) :=by
 rw [qfx,Nat.mul_one]
 unfold rwT lnsT gB
 rcases i with _ | _ | i
 ·left
  obtain ⟨a,b,c,s⟩ :=r
  have hs1:1 ≤ s :=o.1.2.1
  have hs2:s ≤ 3 :=o.1.2.2
  have hs:s = 1 ∨ s = 2 ∨ s = 3 :=by omega
  exact ⟨rfl,qur hN o.1.1.1 o.1.1.2.1 o.1.1.2.2 hs⟩
 ·right;left
  exact ⟨rfl,qp3 hN o.2.1 (by have :=hw.hV;omega)⟩
 ·right;right
  have hi2:i < T.length :=by omega
  have hm:T[i] ∈ T :=List.getElem_mem hi2
  have p :=qp4 (qvn T[i]) (o.2.2 _ hm) (by have :=hw.ht _ hm;omega)
  have e1:(rwHd r N :: rwNv N :: T.map rwTr)[i + 1 + 1]? = some (.iface 137 (xqV T[i])) :=by
   simp only [List.getElem?_cons_succ,List.getElem?_map,List.getElem?_eq_getElem hi2];rfl
  have e2:(lnR r :: lnW qct V :: T.map lnT).getD (i + 1 + 1) [] = lnT T[i] :=by
   simp [List.getD,hi2]
  rw [e1,e2]
  rcases qh4 T[i] with h | ⟨l,h⟩
  ·rw [h] at p ⊢
   exact .inl ⟨rfl,p⟩
  ·rw [h] at p ⊢
   exact .inr ⟨l,rfl,p⟩
theorem qhs {r:TrR} {N v:AV} {T:List (List (Nat × Nat))} {i:Nat} (h:i < T.length) (hx:xqV (gT T i) = v):rwT r N (T.take i) ++ [.iface 137 v] = rwT r N (T.take (i + 1)) :=by
 rw [← qwx r N T h]
 unfold rwTr
 rw [hx]
theorem qtv {r:TrR} {V:List Nat} {T:List (List (Nat × Nat))} (hV0:V = []) (o:okR r V T) (hw:ShW r V T) (h1:1 ≤ T.length):Pure prog 34 [.agg [nv r.1,nv r.2.1,nv r.2.2.1,nv r.2.2.2,.nils],.lst (xqs T) T.length .no] (.str (prtT r V T)) :=by
 have hN:IL (.nils) (zl V) :=.inl ⟨rfl,by rw [hV0];rfl⟩
 have lN:Live noL (.nils) :=hN.no
 have lT :=qdt T
 have lV :=qby (zl V)
 have hT :=hw.hT
 have sW :=hw.le
 have rl :=fun i => @qe9 r (.nils) V T hN o hw i
 have gx :=qgj T h1
 have hx :=qh4 (gT T 0)
 rcases hx with hx | ⟨l0,hx⟩
 all_goals
  have e1 :=qhs (r :=r) (N :=.nils) h1 hx
  rw [hx] at gx
  refine qbg hE rfl (by repeat' first|exact trivial|assumption|exact qa3 _|exact fun _ h => nomatch h|apply And.intro) (by repeat' first|exact trivial|assumption|exact qa3 _|exact fun _ h => nomatch h|apply And.intro) fun S q pc hS hq hC hE => ?_
  conv => whnf
  refine qa6 hE hS ?_
  conv => whnf
  try have z20:=qbk h1
  try have z21:=qbf h1
  repeat ((first|refine qa2 (nthP gx) ?_|refine qa5 ‹_› ?_|refine qa4 ‹_› ?_|refine pkT ‹_› ?_|refine qax ‹_› ?_|refine qa9 ‹_› ?_|refine qbc ‹_› ?_|refine pkF ‹_› ?_|refine qar ‹_› ?_|refine qaq hS (by kernel_rfl) ?_);conv => whnf)
  refine qbh hE hS (A :=Nat) [21,22] (fun i => [(5,.lst (rwT r (.nils) (T.take i)) (i + 2) (.ch 1)),(23,nv i)]) (fun i => [(1,.chain (i + 2) 1 139)]) (fun _ => []) (fun i => 1 ≤ i ∧ i ≤ T.length) (fun i => T.length - i) 1 (kle rfl) rfl (zhg 2) ⟨Nat.le_refl _,h1⟩ ?_
  intro i ⟨hi,hiN⟩ K hK
  obtain rfl:K = 2 :=hK
  conv => whnf
  by_cases hi2:i < T.length
  ·have hi1:IntKind.i64.wrap (Int.ofNat i + 1) = Int.ofNat (i + 1) :=qbr (m :=i + 1) (by omega)
   have d1:decide ((i + 2 + (0 + 1)) * 16 ≤ 140737488355328) = true :=decide_eq_true (by omega)
   have d2:decide (i + 2 + (0 + 1) ≤ 9223372036854775807) = true :=decide_eq_true (by omega)
   have d3 :=qlo (r :=r) (N :=.nils) (T :=T.take i) (n :=i + 2) (by rw [List.length_take];omega)
   have d4:decide (i + 2 = i + 2) = true :=decide_eq_true rfl
   have gy :=qgj T hi2
   refine Or.elim (qh4 (gT T i)) (fun hy => ?_) fun hy => Exists.elim hy fun ly hy => ?_
   all_goals
    have e2 :=qhs (r :=r) (N :=.nils) hi2 hy
    rw [hy] at gy
    try have z22:=qbk hi2
    try have z23:=qbf hi2
    repeat ((first|refine qa2 (nthP gy) ?_|refine qa5 ‹_› ?_|refine qa4 ‹_› ?_|refine pkT ‹_› ?_|refine qax ‹_› ?_|refine qa9 ‹_› ?_|refine qbc ‹_› ?_|refine pkF ‹_› ?_|refine qar ‹_› ?_|refine qaq hS (by kernel_rfl) ?_);conv => whnf)
    exact ⟨i + 1,⟨by omega,hi2⟩,by omega,kle rfl,(zhg 2)⟩
  ·refine qar (qb9 hi2) ?_
   conv => whnf
   refine .inl ?_
   conv => whnf
   have hiE:i = T.length :=by omega
   have eR:AV.lst (rwT r (.nils) (T.take i)) (i + 2) (.ch 1) = .lst (rwT r (.nils) T) (T.length + 2) (.ch 1) :=by rw [hiE,List.take_length]
   have eN2:Int.ofNat (i + 2) = Int.ofNat (T.length + 2) :=by rw [hiE]
   refine qbh hE hS (A :=Nat) [] (fun i => [(33,.lst (rwT r (.nils) T) (T.length + 2) (.ch 1)),(34,nv (T.length + 2)),(8,.str (ouB (lnsT r V T) i)),(9,nv (ckN (lnsT r V T) i)),(35,nv i)]) (fun _ => []) (fun _ => []) (fun i => i ≤ T.length + 2) (fun i => T.length + 2 - i) 0 (kle rfl) rfl (zhg 2) (Nat.zero_le _) ?_
   intro i hi K hK
   obtain rfl:K = 2 :=hK
   conv => whnf
   by_cases hi2:i < T.length + 2
   ·have hi1:IntKind.i64.wrap (Int.ofNat i + 1) = Int.ofNat (i + 1) :=qbr (m :=i + 1) (by omega)
    have hs :=sW i
    refine Or.elim (rl i hi2) (fun hr => ?_) fun hr => Or.elim hr (fun hr => ?_) fun hr => Or.elim hr (fun hr => ?_) fun hr => Exists.elim hr fun l9 hr => ?_
    all_goals
     have gr :=hr.1
     have pl :=hr.2
     have hw :=qeq sW i (by omega)
     try have z24:=qbk hi2
     try have z25:=qbf hi2
     repeat ((first|refine qa2 (nthP gr) ?_|refine qa5 ‹_› ?_|refine qa4 ‹_› ?_|refine pkT ‹_› ?_|refine qax ‹_› ?_|refine qa9 ‹_› ?_|refine qbc ‹_› ?_|refine pkF ‹_› ?_|refine qar ‹_› ?_|refine qav hC (pl) ?_|refine qaq hS (by kernel_rfl) ?_);conv => whnf)
     refine qbh hE hS (A :=Nat) [33,34,8,10,12,35,43] (fun k => [(9,nv (ckN (lnsT r V T) i + ckL (gB (lnsT r V T) i) i k)),(44,nv k)]) (fun _ => []) (fun _ => []) (fun k => k ≤ (gB (lnsT r V T) i).length) (fun k => (gB (lnsT r V T) i).length - k) 0 (kle rfl) rfl (zhg 2) (Nat.zero_le _) ?_
     intro k hk K hK
     obtain rfl:K = 2 :=hK
     conv => whnf
     by_cases hk2:k < (gB (lnsT r V T) i).length
     ·have hk1:IntKind.i64.wrap (Int.ofNat k + 1) = Int.ofNat (k + 1) :=qbr (m :=k + 1) (by omega)
      have hc :=qer (s :=gB (lnsT r V T) i) (i :=i) (k :=k) (by omega) (by omega)
      have hb:((gB (lnsT r V T) i).getD k 0).toNat ≤ 256 :=Nat.le_of_lt (UInt8.toNat_lt _)
      have ew:_ = Int.ofNat (ckN (lnsT r V T) i + ckL (gB (lnsT r V T) i) i (k + 1)) :=(qec (c :=ckN (lnsT r V T) i + ckL (gB (lnsT r V T) i) i k) (by omega) hb (show k ≤ 4000 by omega) (show i < 1000 by omega)).trans (by rw [ckL,Nat.add_assoc])
      try have z26:=qbk hk2
      try have z27:=qbf hk2
      repeat ((first|refine qa2 (qdg hk2) ?_|refine qa5 ‹_› ?_|refine qa4 ‹_› ?_|refine pkT ‹_› ?_|refine qax ‹_› ?_|refine qa9 ‹_› ?_|refine qbc ‹_› ?_|refine pkF ‹_› ?_|refine qar ‹_› ?_|refine qaq hS (by kernel_rfl) ?_);conv => whnf)
      exact ⟨k + 1,hk2,by omega,Nat.le_refl _,(zhg 2)⟩
     ·refine qar (qb9 hk2) ?_
      conv => whnf
      refine .inl ?_
      conv => whnf
      have hkE:k = (gB (lnsT r V T) i).length :=by omega
      have o1 :=qc3 sW i
      have o2 :=qbv hs (Nat.le_refl ([10]:List UInt8).length)
      have o3 :=qbv o1 o2
      have o4:(ouB (lnsT r V T) i ++ (gB (lnsT r V T) i ++ [10])).length ≤ 100000000 :=by simp only [List.length_cons,List.length_nil] at o3;omega
      try have z28:=qb5 (milB o2 rfl)
      try have z29:=qb5 o4
      repeat ((first|refine qa5 ‹_› ?_|refine qa4 ‹_› ?_|refine pkT ‹_› ?_|refine qax ‹_› ?_|refine qa9 ‹_› ?_|refine qbc ‹_› ?_|refine pkF ‹_› ?_|refine qar ‹_› ?_|refine qaq hS (by kernel_rfl) ?_);conv => whnf)
      exact ⟨i + 1,hi2,by omega,Nat.le_refl _,(zhg 2)⟩
   ·have hiE2:i = (lnsT r V T).length :=by rw [qdh];omega
    have t :=qe4 (ckN (lnsT r V T) i)
    have hm :=Nat.mod_lt (ckN (lnsT r V T) i) (show 0 < 109 by decide)
    have p1 :=qdf t.1 (by omega)
    have p2 :=qdf t.2.1 (by omega)
    have p3 :=qdf t.2.2 (by omega)
    have o1 :=qc3 sW i
    have o2:(ouB (lnsT r V T) i ++ [101,110,100,32]).length ≤ 5000000 :=by rw [List.length_append];show _ + 4 ≤ _;omega
    have o3 :=qbv o2 (qb8 (ckN (lnsT r V T) i % 109 / 100))
    have o4 :=qbv o3 (qb8 (ckN (lnsT r V T) i % 109 / 10 % 10))
    have o5 :=qbv o4 (qb8 (ckN (lnsT r V T) i % 109 % 10))
    have o6 :=qbv o5 (Nat.le_refl ([10]:List UInt8).length)
    refine qar (qb9 hi2) ?_
    conv => whnf
    refine .inl ?_
    conv => whnf
    try have z30:=qb5 (milB o2 rfl)
    try have z31:=qb5 (milB o3 rfl)
    try have z32:=qb5 (milB o4 rfl)
    try have z33:=qb5 (milB o5 rfl)
    try have z34:=qb5 (milB o6 rfl)
    repeat ((first|refine qa5 ‹_› ?_|refine qa4 ‹_› ?_|refine pkT ‹_› ?_|refine qax ‹_› ?_|refine qa9 ‹_› ?_|refine qbc ‹_› ?_|refine pkF ‹_› ?_|refine qar ‹_› ?_|refine qav hC (p1) ?_|refine qav hC (p2) ?_|refine qav hC (p3) ?_|refine qaq hS (by kernel_rfl) ?_);conv => whnf)
    exact ⟨_,rfl,wk_s (by unfold prtT finB;rw [← hiE2])⟩
theorem qtz {r:TrR} {V:List Nat} {T:List (List (Nat × Nat))} (hV0:V = []) (o:okR r V T) (hw:ShW r V T) (h0:T = []):Pure prog 34 [.agg [nv r.1,nv r.2.1,nv r.2.2.1,nv r.2.2.2,.nils],.nils] (.str (prtT r V T)) :=by
 have hN:IL (.nils) (zl V) :=.inl ⟨rfl,by rw [hV0];rfl⟩
 have lN:Live noL (.nils) :=hN.no
 have lT :=qdt T
 have lV :=qby (zl V)
 have hT :=hw.hT
 have sW :=hw.le
 have rl :=fun i => @qe9 r (.nils) V T hN o hw i
 have eR:AV.lst [rwHd r (.nils),rwNv (.nils)] 2 .full = .lst (rwT r (.nils) T) (T.length + 2) .full :=by rw [h0];rfl
 have eN2:Int.ofNat 2 = Int.ofNat (T.length + 2) :=by rw [h0];rfl
 refine qbg hE rfl (by repeat' first|exact trivial|assumption|exact qa3 _|exact fun _ h => nomatch h|apply And.intro) (by repeat' first|exact trivial|assumption|exact qa3 _|exact fun _ h => nomatch h|apply And.intro) fun S q pc hS hq hC hE => ?_
 conv => whnf
 refine qa6 hE hS ?_
 conv => whnf
 repeat ((first|refine qaq hS (by kernel_rfl) ?_);conv => whnf)
 refine qbh hE hS (A :=Nat) [] (fun i => [(33,.lst (rwT r (.nils) T) (T.length + 2) .full),(34,nv (T.length + 2)),(8,.str (ouB (lnsT r V T) i)),(9,nv (ckN (lnsT r V T) i)),(35,nv i)]) (fun _ => []) (fun _ => []) (fun i => i ≤ T.length + 2) (fun i => T.length + 2 - i) 0 (kle rfl) rfl (zhg 1) (Nat.zero_le _) ?_
 intro i hi K hK
 obtain rfl:K = 1 :=hK
 conv => whnf
 by_cases hi2:i < T.length + 2
 ·have hi1:IntKind.i64.wrap (Int.ofNat i + 1) = Int.ofNat (i + 1) :=qbr (m :=i + 1) (by omega)
  have hs :=sW i
  refine Or.elim (rl i hi2) (fun hr => ?_) fun hr => Or.elim hr (fun hr => ?_) fun hr => Or.elim hr (fun hr => ?_) fun hr => Exists.elim hr fun l9 hr => ?_
  all_goals
   have gr :=hr.1
   have pl :=hr.2
   have hw :=qeq sW i (by omega)
   try have z35:=qbk hi2
   try have z36:=qbf hi2
   repeat ((first|refine qa2 (nthP gr) ?_|refine qa5 ‹_› ?_|refine qa4 ‹_› ?_|refine pkT ‹_› ?_|refine qax ‹_› ?_|refine qa9 ‹_› ?_|refine qbc ‹_› ?_|refine pkF ‹_› ?_|refine qar ‹_› ?_|refine qav hC (pl) ?_|refine qaq hS (by kernel_rfl) ?_);conv => whnf)
   refine qbh hE hS (A :=Nat) [33,34,8,10,12,35,43] (fun k => [(9,nv (ckN (lnsT r V T) i + ckL (gB (lnsT r V T) i) i k)),(44,nv k)]) (fun _ => []) (fun _ => []) (fun k => k ≤ (gB (lnsT r V T) i).length) (fun k => (gB (lnsT r V T) i).length - k) 0 (kle rfl) rfl (zhg 1) (Nat.zero_le _) ?_
   intro k hk K hK
   obtain rfl:K = 1 :=hK
   conv => whnf
   by_cases hk2:k < (gB (lnsT r V T) i).length
   ·have hk1:IntKind.i64.wrap (Int.ofNat k + 1) = Int.ofNat (k + 1) :=qbr (m :=k + 1) (by omega)
    have hc :=qer (s :=gB (lnsT r V T) i) (i :=i) (k :=k) (by omega) (by omega)
    have hb:((gB (lnsT r V T) i).getD k 0).toNat ≤ 256 :=Nat.le_of_lt (UInt8.toNat_lt _)
    have ew:_ = Int.ofNat (ckN (lnsT r V T) i + ckL (gB (lnsT r V T) i) i (k + 1)) :=(qec (c :=ckN (lnsT r V T) i + ckL (gB (lnsT r V T) i) i k) (by omega) hb (show k ≤ 4000 by omega) (show i < 1000 by omega)).trans (by rw [ckL,Nat.add_assoc])
    try have z37:=qbk hk2
    try have z38:=qbf hk2
    repeat ((first|refine qa2 (qdg hk2) ?_|refine qa5 ‹_› ?_|refine qa4 ‹_› ?_|refine pkT ‹_› ?_|refine qax ‹_› ?_|refine qa9 ‹_› ?_|refine qbc ‹_› ?_|refine pkF ‹_› ?_|refine qar ‹_› ?_|refine qaq hS (by kernel_rfl) ?_);conv => whnf)
    exact ⟨k + 1,hk2,by omega,Nat.le_refl _,(zhg 1)⟩
   ·refine qar (qb9 hk2) ?_
    conv => whnf
    refine .inl ?_
    conv => whnf
    have hkE:k = (gB (lnsT r V T) i).length :=by omega
    have o1 :=qc3 sW i
    have o2 :=qbv hs (Nat.le_refl ([10]:List UInt8).length)
    have o3 :=qbv o1 o2
    have o4:(ouB (lnsT r V T) i ++ (gB (lnsT r V T) i ++ [10])).length ≤ 100000000 :=by simp only [List.length_cons,List.length_nil] at o3;omega
    try have z39:=qb5 (milB o2 rfl)
    try have z40:=qb5 o4
    repeat ((first|refine qa5 ‹_› ?_|refine qa4 ‹_› ?_|refine pkT ‹_› ?_|refine qax ‹_› ?_|refine qa9 ‹_› ?_|refine qbc ‹_› ?_|refine pkF ‹_› ?_|refine qar ‹_› ?_|refine qaq hS (by kernel_rfl) ?_);conv => whnf)
    exact ⟨i + 1,hi2,by omega,Nat.le_refl _,(zhg 1)⟩
 ·have hiE2:i = (lnsT r V T).length :=by rw [qdh];omega
  have t :=qe4 (ckN (lnsT r V T) i)
  have hm :=Nat.mod_lt (ckN (lnsT r V T) i) (show 0 < 109 by decide)
  have p1 :=qdf t.1 (by omega)
  have p2 :=qdf t.2.1 (by omega)
  have p3 :=qdf t.2.2 (by omega)
  have o1 :=qc3 sW i
  have o2:(ouB (lnsT r V T) i ++ [101,110,100,32]).length ≤ 5000000 :=by rw [List.length_append];show _ + 4 ≤ _;omega
  have o3 :=qbv o2 (qb8 (ckN (lnsT r V T) i % 109 / 100))
  have o4 :=qbv o3 (qb8 (ckN (lnsT r V T) i % 109 / 10 % 10))
  have o5 :=qbv o4 (qb8 (ckN (lnsT r V T) i % 109 % 10))
  have o6 :=qbv o5 (Nat.le_refl ([10]:List UInt8).length)
  refine qar (qb9 hi2) ?_
  conv => whnf
  refine .inl ?_
  conv => whnf
  try have z41:=qb5 (milB o2 rfl)
  try have z42:=qb5 (milB o3 rfl)
  try have z43:=qb5 (milB o4 rfl)
  try have z44:=qb5 (milB o5 rfl)
  try have z45:=qb5 (milB o6 rfl)
  repeat ((first|refine qa5 ‹_› ?_|refine qa4 ‹_› ?_|refine pkT ‹_› ?_|refine qax ‹_› ?_|refine qa9 ‹_› ?_|refine qbc ‹_› ?_|refine pkF ‹_› ?_|refine qar ‹_› ?_|refine qav hC (p1) ?_|refine qav hC (p2) ?_|refine qav hC (p3) ?_|refine qaq hS (by kernel_rfl) ?_);conv => whnf)
  exact ⟨_,rfl,wk_s (by unfold prtT finB;rw [← hiE2])⟩
theorem qtx {r:TrR} {V:List Nat} {T:List (List (Nat × Nat))} (hV0:V = []) (o:okR r V T) (hw:ShW r V T) (h0:T = []):Pure prog 34 [.agg [nv r.1,nv r.2.1,nv r.2.2.1,nv r.2.2.2,.nils],.lst [] 0 .no] (.str (prtT r V T)) :=by
 have hN:IL (.nils) (zl V) :=.inl ⟨rfl,by rw [hV0];rfl⟩
 have lN:Live noL (.nils) :=hN.no
 have lT :=qdt T
 have lV :=qby (zl V)
 have hT :=hw.hT
 have sW :=hw.le
 have rl :=fun i => @qe9 r (.nils) V T hN o hw i
 have eR:AV.lst [rwHd r (.nils),rwNv (.nils)] 2 .full = .lst (rwT r (.nils) T) (T.length + 2) .full :=by rw [h0];rfl
 have eN2:Int.ofNat 2 = Int.ofNat (T.length + 2) :=by rw [h0];rfl
 refine qbg hE rfl (by repeat' first|exact trivial|assumption|exact qa3 _|exact fun _ h => nomatch h|apply And.intro) (by repeat' first|exact trivial|assumption|exact qa3 _|exact fun _ h => nomatch h|apply And.intro) fun S q pc hS hq hC hE => ?_
 conv => whnf
 refine qa6 hE hS ?_
 conv => whnf
 repeat ((first|refine qaq hS (by kernel_rfl) ?_);conv => whnf)
 refine qbh hE hS (A :=Nat) [] (fun i => [(33,.lst (rwT r (.nils) T) (T.length + 2) .full),(34,nv (T.length + 2)),(8,.str (ouB (lnsT r V T) i)),(9,nv (ckN (lnsT r V T) i)),(35,nv i)]) (fun _ => []) (fun _ => []) (fun i => i ≤ T.length + 2) (fun i => T.length + 2 - i) 0 (kle rfl) rfl (zhg 1) (Nat.zero_le _) ?_
 intro i hi K hK
 obtain rfl:K = 1 :=hK
 conv => whnf
 by_cases hi2:i < T.length + 2
 ·have hi1:IntKind.i64.wrap (Int.ofNat i + 1) = Int.ofNat (i + 1) :=qbr (m :=i + 1) (by omega)
  have hs :=sW i
  refine Or.elim (rl i hi2) (fun hr => ?_) fun hr => Or.elim hr (fun hr => ?_) fun hr => Or.elim hr (fun hr => ?_) fun hr => Exists.elim hr fun l9 hr => ?_
  all_goals
   have gr :=hr.1
   have pl :=hr.2
   have hw :=qeq sW i (by omega)
   try have z46:=qbk hi2
   try have z47:=qbf hi2
   repeat ((first|refine qa2 (nthP gr) ?_|refine qa5 ‹_› ?_|refine qa4 ‹_› ?_|refine pkT ‹_› ?_|refine qax ‹_› ?_|refine qa9 ‹_› ?_|refine qbc ‹_› ?_|refine pkF ‹_› ?_|refine qar ‹_› ?_|refine qav hC (pl) ?_|refine qaq hS (by kernel_rfl) ?_);conv => whnf)
   refine qbh hE hS (A :=Nat) [33,34,8,10,12,35,43] (fun k => [(9,nv (ckN (lnsT r V T) i + ckL (gB (lnsT r V T) i) i k)),(44,nv k)]) (fun _ => []) (fun _ => []) (fun k => k ≤ (gB (lnsT r V T) i).length) (fun k => (gB (lnsT r V T) i).length - k) 0 (kle rfl) rfl (zhg 1) (Nat.zero_le _) ?_
   intro k hk K hK
   obtain rfl:K = 1 :=hK
   conv => whnf
   by_cases hk2:k < (gB (lnsT r V T) i).length
   ·have hk1:IntKind.i64.wrap (Int.ofNat k + 1) = Int.ofNat (k + 1) :=qbr (m :=k + 1) (by omega)
    have hc :=qer (s :=gB (lnsT r V T) i) (i :=i) (k :=k) (by omega) (by omega)
    have hb:((gB (lnsT r V T) i).getD k 0).toNat ≤ 256 :=Nat.le_of_lt (UInt8.toNat_lt _)
    have ew:_ = Int.ofNat (ckN (lnsT r V T) i + ckL (gB (lnsT r V T) i) i (k + 1)) :=(qec (c :=ckN (lnsT r V T) i + ckL (gB (lnsT r V T) i) i k) (by omega) hb (show k ≤ 4000 by omega) (show i < 1000 by omega)).trans (by rw [ckL,Nat.add_assoc])
    try have z48:=qbk hk2
    try have z49:=qbf hk2
    repeat ((first|refine qa2 (qdg hk2) ?_|refine qa5 ‹_› ?_|refine qa4 ‹_› ?_|refine pkT ‹_› ?_|refine qax ‹_› ?_|refine qa9 ‹_› ?_|refine qbc ‹_› ?_|refine pkF ‹_› ?_|refine qar ‹_› ?_|refine qaq hS (by kernel_rfl) ?_);conv => whnf)
    exact ⟨k + 1,hk2,by omega,Nat.le_refl _,(zhg 1)⟩
   ·refine qar (qb9 hk2) ?_
    conv => whnf
    refine .inl ?_
    conv => whnf
    have hkE:k = (gB (lnsT r V T) i).length :=by omega
    have o1 :=qc3 sW i
    have o2 :=qbv hs (Nat.le_refl ([10]:List UInt8).length)
    have o3 :=qbv o1 o2
    have o4:(ouB (lnsT r V T) i ++ (gB (lnsT r V T) i ++ [10])).length ≤ 100000000 :=by simp only [List.length_cons,List.length_nil] at o3;omega
    try have z50:=qb5 (milB o2 rfl)
    try have z51:=qb5 o4
    repeat ((first|refine qa5 ‹_› ?_|refine qa4 ‹_› ?_|refine pkT ‹_› ?_|refine qax ‹_› ?_|refine qa9 ‹_› ?_|refine qbc ‹_› ?_|refine pkF ‹_› ?_|refine qar ‹_› ?_|refine qaq hS (by kernel_rfl) ?_);conv => whnf)
    exact ⟨i + 1,hi2,by omega,Nat.le_refl _,(zhg 1)⟩
 ·have hiE2:i = (lnsT r V T).length :=by rw [qdh];omega
  have t :=qe4 (ckN (lnsT r V T) i)
  have hm :=Nat.mod_lt (ckN (lnsT r V T) i) (show 0 < 109 by decide)
  have p1 :=qdf t.1 (by omega)
  have p2 :=qdf t.2.1 (by omega)
  have p3 :=qdf t.2.2 (by omega)
  have o1 :=qc3 sW i
  have o2:(ouB (lnsT r V T) i ++ [101,110,100,32]).length ≤ 5000000 :=by rw [List.length_append];show _ + 4 ≤ _;omega
  have o3 :=qbv o2 (qb8 (ckN (lnsT r V T) i % 109 / 100))
  have o4 :=qbv o3 (qb8 (ckN (lnsT r V T) i % 109 / 10 % 10))
  have o5 :=qbv o4 (qb8 (ckN (lnsT r V T) i % 109 % 10))
  have o6 :=qbv o5 (Nat.le_refl ([10]:List UInt8).length)
  refine qar (qb9 hi2) ?_
  conv => whnf
  refine .inl ?_
  conv => whnf
  try have z52:=qb5 (milB o2 rfl)
  try have z53:=qb5 (milB o3 rfl)
  try have z54:=qb5 (milB o4 rfl)
  try have z55:=qb5 (milB o5 rfl)
  try have z56:=qb5 (milB o6 rfl)
  repeat ((first|refine qa5 ‹_› ?_|refine qa4 ‹_› ?_|refine pkT ‹_› ?_|refine qax ‹_› ?_|refine qa9 ‹_› ?_|refine qbc ‹_› ?_|refine pkF ‹_› ?_|refine qar ‹_› ?_|refine qav hC (p1) ?_|refine qav hC (p2) ?_|refine qav hC (p3) ?_|refine qaq hS (by kernel_rfl) ?_);conv => whnf)
  exact ⟨_,rfl,wk_s (by unfold prtT finB;rw [← hiE2])⟩
theorem qtu {r:TrR} {V:List Nat} {T:List (List (Nat × Nat))} (o:okR r V T) (hw:ShW r V T) (h1:1 ≤ T.length):Pure prog 34 [.agg [nv r.1,nv r.2.1,nv r.2.2.1,nv r.2.2.2,nl (zl V)],.lst (xqs T) T.length .no] (.str (prtT r V T)) :=by
 have hN:IL (nl (zl V)) (zl V) :=.inr rfl
 have lN:Live noL (nl (zl V)) :=hN.no
 have lT :=qdt T
 have lV :=qby (zl V)
 have hT :=hw.hT
 have sW :=hw.le
 have rl :=fun i => @qe9 r (nl (zl V)) V T hN o hw i
 have gx :=qgj T h1
 have hx :=qh4 (gT T 0)
 rcases hx with hx | ⟨l0,hx⟩
 all_goals
  have e1 :=qhs (r :=r) (N :=nl (zl V)) h1 hx
  rw [hx] at gx
  refine qbg hE rfl (by repeat' first|exact trivial|assumption|exact qa3 _|exact fun _ h => nomatch h|apply And.intro) (by repeat' first|exact trivial|assumption|exact qa3 _|exact fun _ h => nomatch h|apply And.intro) fun S q pc hS hq hC hE => ?_
  conv => whnf
  refine qa6 hE hS ?_
  conv => whnf
  try have z57:=qbk h1
  try have z58:=qbf h1
  repeat ((first|refine qa2 (nthP gx) ?_|refine qa5 ‹_› ?_|refine qa4 ‹_› ?_|refine pkT ‹_› ?_|refine qax ‹_› ?_|refine qa9 ‹_› ?_|refine qbc ‹_› ?_|refine pkF ‹_› ?_|refine qar ‹_› ?_|refine qaq hS (by kernel_rfl) ?_);conv => whnf)
  refine qbh hE hS (A :=Nat) [21,22] (fun i => [(5,.lst (rwT r (nl (zl V)) (T.take i)) (i + 2) (.ch 1)),(23,nv i)]) (fun i => [(1,.chain (i + 2) 1 139)]) (fun _ => []) (fun i => 1 ≤ i ∧ i ≤ T.length) (fun i => T.length - i) 1 (kle rfl) rfl (zhg 2) ⟨Nat.le_refl _,h1⟩ ?_
  intro i ⟨hi,hiN⟩ K hK
  obtain rfl:K = 2 :=hK
  conv => whnf
  by_cases hi2:i < T.length
  ·have hi1:IntKind.i64.wrap (Int.ofNat i + 1) = Int.ofNat (i + 1) :=qbr (m :=i + 1) (by omega)
   have d1:decide ((i + 2 + (0 + 1)) * 16 ≤ 140737488355328) = true :=decide_eq_true (by omega)
   have d2:decide (i + 2 + (0 + 1) ≤ 9223372036854775807) = true :=decide_eq_true (by omega)
   have d3 :=qlo (r :=r) (N :=nl (zl V)) (T :=T.take i) (n :=i + 2) (by rw [List.length_take];omega)
   have d4:decide (i + 2 = i + 2) = true :=decide_eq_true rfl
   have gy :=qgj T hi2
   refine Or.elim (qh4 (gT T i)) (fun hy => ?_) fun hy => Exists.elim hy fun ly hy => ?_
   all_goals
    have e2 :=qhs (r :=r) (N :=nl (zl V)) hi2 hy
    rw [hy] at gy
    try have z59:=qbk hi2
    try have z60:=qbf hi2
    repeat ((first|refine qa2 (nthP gy) ?_|refine qa5 ‹_› ?_|refine qa4 ‹_› ?_|refine pkT ‹_› ?_|refine qax ‹_› ?_|refine qa9 ‹_› ?_|refine qbc ‹_› ?_|refine pkF ‹_› ?_|refine qar ‹_› ?_|refine qaq hS (by kernel_rfl) ?_);conv => whnf)
    exact ⟨i + 1,⟨by omega,hi2⟩,by omega,kle rfl,(zhg 2)⟩
  ·refine qar (qb9 hi2) ?_
   conv => whnf
   refine .inl ?_
   conv => whnf
   have hiE:i = T.length :=by omega
   have eR:AV.lst (rwT r (nl (zl V)) (T.take i)) (i + 2) (.ch 1) = .lst (rwT r (nl (zl V)) T) (T.length + 2) (.ch 1) :=by rw [hiE,List.take_length]
   have eN2:Int.ofNat (i + 2) = Int.ofNat (T.length + 2) :=by rw [hiE]
   refine qbh hE hS (A :=Nat) [] (fun i => [(33,.lst (rwT r (nl (zl V)) T) (T.length + 2) (.ch 1)),(34,nv (T.length + 2)),(8,.str (ouB (lnsT r V T) i)),(9,nv (ckN (lnsT r V T) i)),(35,nv i)]) (fun _ => []) (fun _ => []) (fun i => i ≤ T.length + 2) (fun i => T.length + 2 - i) 0 (kle rfl) rfl (zhg 2) (Nat.zero_le _) ?_
   intro i hi K hK
   obtain rfl:K = 2 :=hK
   conv => whnf
   by_cases hi2:i < T.length + 2
   ·have hi1:IntKind.i64.wrap (Int.ofNat i + 1) = Int.ofNat (i + 1) :=qbr (m :=i + 1) (by omega)
    have hs :=sW i
    refine Or.elim (rl i hi2) (fun hr => ?_) fun hr => Or.elim hr (fun hr => ?_) fun hr => Or.elim hr (fun hr => ?_) fun hr => Exists.elim hr fun l9 hr => ?_
    all_goals
     have gr :=hr.1
     have pl :=hr.2
     have hw :=qeq sW i (by omega)
     try have z61:=qbk hi2
     try have z62:=qbf hi2
     repeat ((first|refine qa2 (nthP gr) ?_|refine qa5 ‹_› ?_|refine qa4 ‹_› ?_|refine pkT ‹_› ?_|refine qax ‹_› ?_|refine qa9 ‹_› ?_|refine qbc ‹_› ?_|refine pkF ‹_› ?_|refine qar ‹_› ?_|refine qav hC (pl) ?_|refine qaq hS (by kernel_rfl) ?_);conv => whnf)
     refine qbh hE hS (A :=Nat) [33,34,8,10,12,35,43] (fun k => [(9,nv (ckN (lnsT r V T) i + ckL (gB (lnsT r V T) i) i k)),(44,nv k)]) (fun _ => []) (fun _ => []) (fun k => k ≤ (gB (lnsT r V T) i).length) (fun k => (gB (lnsT r V T) i).length - k) 0 (kle rfl) rfl (zhg 2) (Nat.zero_le _) ?_
     intro k hk K hK
     obtain rfl:K = 2 :=hK
     conv => whnf
     by_cases hk2:k < (gB (lnsT r V T) i).length
     ·have hk1:IntKind.i64.wrap (Int.ofNat k + 1) = Int.ofNat (k + 1) :=qbr (m :=k + 1) (by omega)
      have hc :=qer (s :=gB (lnsT r V T) i) (i :=i) (k :=k) (by omega) (by omega)
      have hb:((gB (lnsT r V T) i).getD k 0).toNat ≤ 256 :=Nat.le_of_lt (UInt8.toNat_lt _)
      have ew:_ = Int.ofNat (ckN (lnsT r V T) i + ckL (gB (lnsT r V T) i) i (k + 1)) :=(qec (c :=ckN (lnsT r V T) i + ckL (gB (lnsT r V T) i) i k) (by omega) hb (show k ≤ 4000 by omega) (show i < 1000 by omega)).trans (by rw [ckL,Nat.add_assoc])
      try have z63:=qbk hk2
      try have z64:=qbf hk2
      repeat ((first|refine qa2 (qdg hk2) ?_|refine qa5 ‹_› ?_|refine qa4 ‹_› ?_|refine pkT ‹_› ?_|refine qax ‹_› ?_|refine qa9 ‹_› ?_|refine qbc ‹_› ?_|refine pkF ‹_› ?_|refine qar ‹_› ?_|refine qaq hS (by kernel_rfl) ?_);conv => whnf)
      exact ⟨k + 1,hk2,by omega,Nat.le_refl _,(zhg 2)⟩
     ·refine qar (qb9 hk2) ?_
      conv => whnf
      refine .inl ?_
      conv => whnf
      have hkE:k = (gB (lnsT r V T) i).length :=by omega
      have o1 :=qc3 sW i
      have o2 :=qbv hs (Nat.le_refl ([10]:List UInt8).length)
      have o3 :=qbv o1 o2
      have o4:(ouB (lnsT r V T) i ++ (gB (lnsT r V T) i ++ [10])).length ≤ 100000000 :=by simp only [List.length_cons,List.length_nil] at o3;omega
      try have z65:=qb5 (milB o2 rfl)
      try have z66:=qb5 o4
      repeat ((first|refine qa5 ‹_› ?_|refine qa4 ‹_› ?_|refine pkT ‹_› ?_|refine qax ‹_› ?_|refine qa9 ‹_› ?_|refine qbc ‹_› ?_|refine pkF ‹_› ?_|refine qar ‹_› ?_|refine qaq hS (by kernel_rfl) ?_);conv => whnf)
      exact ⟨i + 1,hi2,by omega,Nat.le_refl _,(zhg 2)⟩
   ·have hiE2:i = (lnsT r V T).length :=by rw [qdh];omega
    have t :=qe4 (ckN (lnsT r V T) i)
    have hm :=Nat.mod_lt (ckN (lnsT r V T) i) (show 0 < 109 by decide)
    have p1 :=qdf t.1 (by omega)
    have p2 :=qdf t.2.1 (by omega)
    have p3 :=qdf t.2.2 (by omega)
    have o1 :=qc3 sW i
    have o2:(ouB (lnsT r V T) i ++ [101,110,100,32]).length ≤ 5000000 :=by rw [List.length_append];show _ + 4 ≤ _;omega
    have o3 :=qbv o2 (qb8 (ckN (lnsT r V T) i % 109 / 100))
    have o4 :=qbv o3 (qb8 (ckN (lnsT r V T) i % 109 / 10 % 10))
    have o5 :=qbv o4 (qb8 (ckN (lnsT r V T) i % 109 % 10))
    have o6 :=qbv o5 (Nat.le_refl ([10]:List UInt8).length)
    refine qar (qb9 hi2) ?_
    conv => whnf
    refine .inl ?_
    conv => whnf
    try have z67:=qb5 (milB o2 rfl)
    try have z68:=qb5 (milB o3 rfl)
    try have z69:=qb5 (milB o4 rfl)
    try have z70:=qb5 (milB o5 rfl)
    try have z71:=qb5 (milB o6 rfl)
    repeat ((first|refine qa5 ‹_› ?_|refine qa4 ‹_› ?_|refine pkT ‹_› ?_|refine qax ‹_› ?_|refine qa9 ‹_› ?_|refine qbc ‹_› ?_|refine pkF ‹_› ?_|refine qar ‹_› ?_|refine qav hC (p1) ?_|refine qav hC (p2) ?_|refine qav hC (p3) ?_|refine qaq hS (by kernel_rfl) ?_);conv => whnf)
    exact ⟨_,rfl,wk_s (by unfold prtT finB;rw [← hiE2])⟩
theorem qty {r:TrR} {V:List Nat} {T:List (List (Nat × Nat))} (o:okR r V T) (hw:ShW r V T) (h0:T = []):Pure prog 34 [.agg [nv r.1,nv r.2.1,nv r.2.2.1,nv r.2.2.2,nl (zl V)],.nils] (.str (prtT r V T)) :=by
 have hN:IL (nl (zl V)) (zl V) :=.inr rfl
 have lN:Live noL (nl (zl V)) :=hN.no
 have lT :=qdt T
 have lV :=qby (zl V)
 have hT :=hw.hT
 have sW :=hw.le
 have rl :=fun i => @qe9 r (nl (zl V)) V T hN o hw i
 have eR:AV.lst [rwHd r (nl (zl V)),rwNv (nl (zl V))] 2 .full = .lst (rwT r (nl (zl V)) T) (T.length + 2) .full :=by rw [h0];rfl
 have eN2:Int.ofNat 2 = Int.ofNat (T.length + 2) :=by rw [h0];rfl
 refine qbg hE rfl (by repeat' first|exact trivial|assumption|exact qa3 _|exact fun _ h => nomatch h|apply And.intro) (by repeat' first|exact trivial|assumption|exact qa3 _|exact fun _ h => nomatch h|apply And.intro) fun S q pc hS hq hC hE => ?_
 conv => whnf
 refine qa6 hE hS ?_
 conv => whnf
 repeat ((first|refine qaq hS (by kernel_rfl) ?_);conv => whnf)
 refine qbh hE hS (A :=Nat) [] (fun i => [(33,.lst (rwT r (nl (zl V)) T) (T.length + 2) .full),(34,nv (T.length + 2)),(8,.str (ouB (lnsT r V T) i)),(9,nv (ckN (lnsT r V T) i)),(35,nv i)]) (fun _ => []) (fun _ => []) (fun i => i ≤ T.length + 2) (fun i => T.length + 2 - i) 0 (kle rfl) rfl (zhg 1) (Nat.zero_le _) ?_
 intro i hi K hK
 obtain rfl:K = 1 :=hK
 conv => whnf
 by_cases hi2:i < T.length + 2
 ·have hi1:IntKind.i64.wrap (Int.ofNat i + 1) = Int.ofNat (i + 1) :=qbr (m :=i + 1) (by omega)
  have hs :=sW i
  refine Or.elim (rl i hi2) (fun hr => ?_) fun hr => Or.elim hr (fun hr => ?_) fun hr => Or.elim hr (fun hr => ?_) fun hr => Exists.elim hr fun l9 hr => ?_
  all_goals
   have gr :=hr.1
   have pl :=hr.2
   have hw :=qeq sW i (by omega)
   try have z72:=qbk hi2
   try have z73:=qbf hi2
   repeat ((first|refine qa2 (nthP gr) ?_|refine qa5 ‹_› ?_|refine qa4 ‹_› ?_|refine pkT ‹_› ?_|refine qax ‹_› ?_|refine qa9 ‹_› ?_|refine qbc ‹_› ?_|refine pkF ‹_› ?_|refine qar ‹_› ?_|refine qav hC (pl) ?_|refine qaq hS (by kernel_rfl) ?_);conv => whnf)
   refine qbh hE hS (A :=Nat) [33,34,8,10,12,35,43] (fun k => [(9,nv (ckN (lnsT r V T) i + ckL (gB (lnsT r V T) i) i k)),(44,nv k)]) (fun _ => []) (fun _ => []) (fun k => k ≤ (gB (lnsT r V T) i).length) (fun k => (gB (lnsT r V T) i).length - k) 0 (kle rfl) rfl (zhg 1) (Nat.zero_le _) ?_
   intro k hk K hK
   obtain rfl:K = 1 :=hK
   conv => whnf
   by_cases hk2:k < (gB (lnsT r V T) i).length
   ·have hk1:IntKind.i64.wrap (Int.ofNat k + 1) = Int.ofNat (k + 1) :=qbr (m :=k + 1) (by omega)
    have hc :=qer (s :=gB (lnsT r V T) i) (i :=i) (k :=k) (by omega) (by omega)
    have hb:((gB (lnsT r V T) i).getD k 0).toNat ≤ 256 :=Nat.le_of_lt (UInt8.toNat_lt _)
    have ew:_ = Int.ofNat (ckN (lnsT r V T) i + ckL (gB (lnsT r V T) i) i (k + 1)) :=(qec (c :=ckN (lnsT r V T) i + ckL (gB (lnsT r V T) i) i k) (by omega) hb (show k ≤ 4000 by omega) (show i < 1000 by omega)).trans (by rw [ckL,Nat.add_assoc])
    try have z74:=qbk hk2
    try have z75:=qbf hk2
    repeat ((first|refine qa2 (qdg hk2) ?_|refine qa5 ‹_› ?_|refine qa4 ‹_› ?_|refine pkT ‹_› ?_|refine qax ‹_› ?_|refine qa9 ‹_› ?_|refine qbc ‹_› ?_|refine pkF ‹_› ?_|refine qar ‹_› ?_|refine qaq hS (by kernel_rfl) ?_);conv => whnf)
    exact ⟨k + 1,hk2,by omega,Nat.le_refl _,(zhg 1)⟩
   ·refine qar (qb9 hk2) ?_
    conv => whnf
    refine .inl ?_
    conv => whnf
    have hkE:k = (gB (lnsT r V T) i).length :=by omega
    have o1 :=qc3 sW i
    have o2 :=qbv hs (Nat.le_refl ([10]:List UInt8).length)
    have o3 :=qbv o1 o2
    have o4:(ouB (lnsT r V T) i ++ (gB (lnsT r V T) i ++ [10])).length ≤ 100000000 :=by simp only [List.length_cons,List.length_nil] at o3;omega
    try have z76:=qb5 (milB o2 rfl)
    try have z77:=qb5 o4
    repeat ((first|refine qa5 ‹_› ?_|refine qa4 ‹_› ?_|refine pkT ‹_› ?_|refine qax ‹_› ?_|refine qa9 ‹_› ?_|refine qbc ‹_› ?_|refine pkF ‹_› ?_|refine qar ‹_› ?_|refine qaq hS (by kernel_rfl) ?_);conv => whnf)
    exact ⟨i + 1,hi2,by omega,Nat.le_refl _,(zhg 1)⟩
 ·have hiE2:i = (lnsT r V T).length :=by rw [qdh];omega
  have t :=qe4 (ckN (lnsT r V T) i)
  have hm :=Nat.mod_lt (ckN (lnsT r V T) i) (show 0 < 109 by decide)
  have p1 :=qdf t.1 (by omega)
  have p2 :=qdf t.2.1 (by omega)
  have p3 :=qdf t.2.2 (by omega)
  have o1 :=qc3 sW i
  have o2:(ouB (lnsT r V T) i ++ [101,110,100,32]).length ≤ 5000000 :=by rw [List.length_append];show _ + 4 ≤ _;omega
  have o3 :=qbv o2 (qb8 (ckN (lnsT r V T) i % 109 / 100))
  have o4 :=qbv o3 (qb8 (ckN (lnsT r V T) i % 109 / 10 % 10))
  have o5 :=qbv o4 (qb8 (ckN (lnsT r V T) i % 109 % 10))
  have o6 :=qbv o5 (Nat.le_refl ([10]:List UInt8).length)
  refine qar (qb9 hi2) ?_
  conv => whnf
  refine .inl ?_
  conv => whnf
  try have z78:=qb5 (milB o2 rfl)
  try have z79:=qb5 (milB o3 rfl)
  try have z80:=qb5 (milB o4 rfl)
  try have z81:=qb5 (milB o5 rfl)
  try have z82:=qb5 (milB o6 rfl)
  repeat ((first|refine qa5 ‹_› ?_|refine qa4 ‹_› ?_|refine pkT ‹_› ?_|refine qax ‹_› ?_|refine qa9 ‹_› ?_|refine qbc ‹_› ?_|refine pkF ‹_› ?_|refine qar ‹_› ?_|refine qav hC (p1) ?_|refine qav hC (p2) ?_|refine qav hC (p3) ?_|refine qaq hS (by kernel_rfl) ?_);conv => whnf)
  exact ⟨_,rfl,wk_s (by unfold prtT finB;rw [← hiE2])⟩
theorem qtw {r:TrR} {V:List Nat} {T:List (List (Nat × Nat))} (o:okR r V T) (hw:ShW r V T) (h0:T = []):Pure prog 34 [.agg [nv r.1,nv r.2.1,nv r.2.2.1,nv r.2.2.2,nl (zl V)],.lst [] 0 .no] (.str (prtT r V T)) :=by
 have hN:IL (nl (zl V)) (zl V) :=.inr rfl
 have lN:Live noL (nl (zl V)) :=hN.no
 have lT :=qdt T
 have lV :=qby (zl V)
 have hT :=hw.hT
 have sW :=hw.le
 have rl :=fun i => @qe9 r (nl (zl V)) V T hN o hw i
 have eR:AV.lst [rwHd r (nl (zl V)),rwNv (nl (zl V))] 2 .full = .lst (rwT r (nl (zl V)) T) (T.length + 2) .full :=by rw [h0];rfl
 have eN2:Int.ofNat 2 = Int.ofNat (T.length + 2) :=by rw [h0];rfl
 refine qbg hE rfl (by repeat' first|exact trivial|assumption|exact qa3 _|exact fun _ h => nomatch h|apply And.intro) (by repeat' first|exact trivial|assumption|exact qa3 _|exact fun _ h => nomatch h|apply And.intro) fun S q pc hS hq hC hE => ?_
 conv => whnf
 refine qa6 hE hS ?_
 conv => whnf
 repeat ((first|refine qaq hS (by kernel_rfl) ?_);conv => whnf)
 refine qbh hE hS (A :=Nat) [] (fun i => [(33,.lst (rwT r (nl (zl V)) T) (T.length + 2) .full),(34,nv (T.length + 2)),(8,.str (ouB (lnsT r V T) i)),(9,nv (ckN (lnsT r V T) i)),(35,nv i)]) (fun _ => []) (fun _ => []) (fun i => i ≤ T.length + 2) (fun i => T.length + 2 - i) 0 (kle rfl) rfl (zhg 1) (Nat.zero_le _) ?_
 intro i hi K hK
 obtain rfl:K = 1 :=hK
 conv => whnf
 by_cases hi2:i < T.length + 2
 ·have hi1:IntKind.i64.wrap (Int.ofNat i + 1) = Int.ofNat (i + 1) :=qbr (m :=i + 1) (by omega)
  have hs :=sW i
  refine Or.elim (rl i hi2) (fun hr => ?_) fun hr => Or.elim hr (fun hr => ?_) fun hr => Or.elim hr (fun hr => ?_) fun hr => Exists.elim hr fun l9 hr => ?_
  all_goals
   have gr :=hr.1
   have pl :=hr.2
   have hw :=qeq sW i (by omega)
   try have z83:=qbk hi2
   try have z84:=qbf hi2
   repeat ((first|refine qa2 (nthP gr) ?_|refine qa5 ‹_› ?_|refine qa4 ‹_› ?_|refine pkT ‹_› ?_|refine qax ‹_› ?_|refine qa9 ‹_› ?_|refine qbc ‹_› ?_|refine pkF ‹_› ?_|refine qar ‹_› ?_|refine qav hC (pl) ?_|refine qaq hS (by kernel_rfl) ?_);conv => whnf)
   refine qbh hE hS (A :=Nat) [33,34,8,10,12,35,43] (fun k => [(9,nv (ckN (lnsT r V T) i + ckL (gB (lnsT r V T) i) i k)),(44,nv k)]) (fun _ => []) (fun _ => []) (fun k => k ≤ (gB (lnsT r V T) i).length) (fun k => (gB (lnsT r V T) i).length - k) 0 (kle rfl) rfl (zhg 1) (Nat.zero_le _) ?_
   intro k hk K hK
   obtain rfl:K = 1 :=hK
   conv => whnf
   by_cases hk2:k < (gB (lnsT r V T) i).length
   ·have hk1:IntKind.i64.wrap (Int.ofNat k + 1) = Int.ofNat (k + 1) :=qbr (m :=k + 1) (by omega)
    have hc :=qer (s :=gB (lnsT r V T) i) (i :=i) (k :=k) (by omega) (by omega)
    have hb:((gB (lnsT r V T) i).getD k 0).toNat ≤ 256 :=Nat.le_of_lt (UInt8.toNat_lt _)
    have ew:_ = Int.ofNat (ckN (lnsT r V T) i + ckL (gB (lnsT r V T) i) i (k + 1)) :=(qec (c :=ckN (lnsT r V T) i + ckL (gB (lnsT r V T) i) i k) (by omega) hb (show k ≤ 4000 by omega) (show i < 1000 by omega)).trans (by rw [ckL,Nat.add_assoc])
    try have z85:=qbk hk2
    try have z86:=qbf hk2
    repeat ((first|refine qa2 (qdg hk2) ?_|refine qa5 ‹_› ?_|refine qa4 ‹_› ?_|refine pkT ‹_› ?_|refine qax ‹_› ?_|refine qa9 ‹_› ?_|refine qbc ‹_› ?_|refine pkF ‹_› ?_|refine qar ‹_› ?_|refine qaq hS (by kernel_rfl) ?_);conv => whnf)
    exact ⟨k + 1,hk2,by omega,Nat.le_refl _,(zhg 1)⟩
   ·refine qar (qb9 hk2) ?_
    conv => whnf
    refine .inl ?_
    conv => whnf
    have hkE:k = (gB (lnsT r V T) i).length :=by omega
    have o1 :=qc3 sW i
    have o2 :=qbv hs (Nat.le_refl ([10]:List UInt8).length)
    have o3 :=qbv o1 o2
    have o4:(ouB (lnsT r V T) i ++ (gB (lnsT r V T) i ++ [10])).length ≤ 100000000 :=by simp only [List.length_cons,List.length_nil] at o3;omega
    try have z87:=qb5 (milB o2 rfl)
    try have z88:=qb5 o4
    repeat ((first|refine qa5 ‹_› ?_|refine qa4 ‹_› ?_|refine pkT ‹_› ?_|refine qax ‹_› ?_|refine qa9 ‹_› ?_|refine qbc ‹_› ?_|refine pkF ‹_› ?_|refine qar ‹_› ?_|refine qaq hS (by kernel_rfl) ?_);conv => whnf)
    exact ⟨i + 1,hi2,by omega,Nat.le_refl _,(zhg 1)⟩
 ·have hiE2:i = (lnsT r V T).length :=by rw [qdh];omega
  have t :=qe4 (ckN (lnsT r V T) i)
  have hm :=Nat.mod_lt (ckN (lnsT r V T) i) (show 0 < 109 by decide)
  have p1 :=qdf t.1 (by omega)
  have p2 :=qdf t.2.1 (by omega)
  have p3 :=qdf t.2.2 (by omega)
  have o1 :=qc3 sW i
  have o2:(ouB (lnsT r V T) i ++ [101,110,100,32]).length ≤ 5000000 :=by rw [List.length_append];show _ + 4 ≤ _;omega
  have o3 :=qbv o2 (qb8 (ckN (lnsT r V T) i % 109 / 100))
  have o4 :=qbv o3 (qb8 (ckN (lnsT r V T) i % 109 / 10 % 10))
  have o5 :=qbv o4 (qb8 (ckN (lnsT r V T) i % 109 % 10))
  have o6 :=qbv o5 (Nat.le_refl ([10]:List UInt8).length)
  refine qar (qb9 hi2) ?_
  conv => whnf
  refine .inl ?_
  conv => whnf
  try have z89:=qb5 (milB o2 rfl)
  try have z90:=qb5 (milB o3 rfl)
  try have z91:=qb5 (milB o4 rfl)
  try have z92:=qb5 (milB o5 rfl)
  try have z93:=qb5 (milB o6 rfl)
  repeat ((first|refine qa5 ‹_› ?_|refine qa4 ‹_› ?_|refine pkT ‹_› ?_|refine qax ‹_› ?_|refine qa9 ‹_› ?_|refine qbc ‹_› ?_|refine pkF ‹_› ?_|refine qar ‹_› ?_|refine qav hC (p1) ?_|refine qav hC (p2) ?_|refine qav hC (p3) ?_|refine qaq hS (by kernel_rfl) ?_);conv => whnf)
  exact ⟨_,rfl,wk_s (by unfold prtT finB;rw [← hiE2])⟩
def TQ (X:AV) (T:List (List (Nat × Nat))):Prop :=X = .nils ∧ T = [] ∨ X = .lst (xqs T) T.length .no
theorem TQ.no {X:AV} {T:List (List (Nat × Nat))} (h:TQ X T):Live noL X :=by
 rcases h with ⟨rfl,_⟩ | rfl
 ·trivial
 ·exact ⟨qdt T,fun _ e => nomatch e⟩
theorem qi9 {r:TrR} {N X:AV} {V:List Nat} {T:List (List (Nat × Nat))} (hN:IL N (zl V)) (hX:TQ X T) (o:okR r V T) (hw:ShW r V T):Pure prog 34 [.agg [nv r.1,nv r.2.1,nv r.2.2.1,nv r.2.2.2,N],X] (.str (prtT r V T)) :=by
 rcases hN with ⟨rfl,e⟩ | rfl
 ·have hV:V = [] :=List.map_eq_nil_iff.1 e
  rcases hX with ⟨rfl,e1⟩ | rfl
  ·exact qtz hV o hw e1
  ·by_cases h1:1 ≤ T.length
   ·exact qtv hV o hw h1
   ·obtain rfl :=List.eq_nil_of_length_eq_zero (show T.length = 0 by omega)
    exact qtx hV o hw rfl
 ·rcases hX with ⟨rfl,e1⟩ | rfl
  ·exact qty o hw e1
  ·by_cases h1:1 ≤ T.length
   ·exact qtu o hw h1
   ·obtain rfl :=List.eq_nil_of_length_eq_zero (show T.length = 0 by omega)
    exact qtw o hw rfl
end
end Go.Abs.Seat
