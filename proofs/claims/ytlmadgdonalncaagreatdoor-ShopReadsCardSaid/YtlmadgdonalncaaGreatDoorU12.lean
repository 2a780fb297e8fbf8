/-
  The text of a piece, as the program writes it.
-/
import Derived.Test.YtlmadgdonalncaaGreatDoorU10
import Derived.Test.YtlmadgdonalncaaGreatDoorB54
import Derived.Test.YtlmadgdonalncaaGreatDoorU4
import Derived.Test.YtlmadgdonalncaaGreatDoorU5
namespace Go.Abs.Seat
noncomputable section
open Go Go.Abs Go.Proofs.Tryz
set_option maxRecDepth 100000
set_option maxHeartbeats 40000000
attribute [local irreducible] IntKind.wrap pEq
def lnsB (N:List Lk) (H:List Nat):List (List UInt8) :=lnM N.length :: (N.map lnL ++ H.map lnH)
def gB (l:List (List UInt8)) (i:Nat):List UInt8 :=l.getD i []
def ckL (s:List UInt8) (i:Nat):Nat → Nat
 | 0 => 0
 |k + 1 => ckL s i k + (s.getD k 0).toNat * (k + 1) * (i + 1)
def ckN (l:List (List UInt8)):Nat → Nat
 | 0 => 0
 |i + 1 => ckN l i + ckL (gB l i) i (gB l i).length
def ouB (l:List (List UInt8)):Nat → List UInt8
 | 0 => []
 |i + 1 => ouB l i ++ (gB l i ++ [10])
def finB (o:List UInt8) (c:Nat):List UInt8 :=((((o ++ [101,110,100,32]) ++ dec (c / 100)) ++ dec (c / 10 % 10)) ++ dec (c % 10)) ++ [10]
def prtB (N:List Lk) (H:List Nat):List UInt8 :=finB (ouB (lnsB N H) (lnsB N H).length) (ckN (lnsB N H) (lnsB N H).length % 127)
def rwL (x:Lk):AV :=.iface 193 (.agg [nv x.1,nv x.2.1,nv x.2.2])
def rwH (n:Nat):AV :=.iface 194 (nv n)
def rwA (m:Nat) (N:List Lk) (H:List Nat):List AV :=.iface 191 (nv m) :: (N.map rwL ++ H.map rwH)
theorem qb4 (m:Nat) (N:List Lk) (H:List Nat):Lives noL (rwA m N H) :=by
 refine ⟨trivial,?_⟩
 have h1:∀ l:List Lk,Lives noL (l.map rwL) :=fun l => by
  induction l with
  |nil => trivial
  |cons x r ih => exact ⟨⟨trivial,trivial,trivial,trivial⟩,ih⟩
 have h2:∀ l:List Nat,Lives noL (l.map rwH) :=fun l => by
  induction l with
  |nil => trivial
  |cons x r ih => exact ⟨trivial,ih⟩
 exact Lives.append (h1 N) (h2 H)
def okT (N:List Lk) (H:List Nat):Prop :=(∀ x,x ∈ N → x.1 < 100 ∧ x.2.1 < 100 ∧ x.2.2 < 100) ∧ ∀ n,n ∈ H → n < 100
theorem qbg {xs:List AV} (h:Lives noL xs) {k c n:Nat} (hc:c + 1 ≤ n):bd (.lst xs k (.ch c)) ≤ n :=Nat.max_le.2 ⟨hc,qai h⟩
theorem qve (m:Nat) (N:List Lk) (H:List Nat):(rwA m N H).length = N.length + H.length + 1 :=by
 unfold rwA
 rw [List.length_cons,List.length_append,List.length_map,List.length_map]
theorem qsv (m:Nat) (N:List Lk) {i:Nat} (h:i < N.length):rwA m (N.take i) [] ++ [rwL (gN N i)] = rwA m (N.take (i + 1)) [] :=by
 rw [qhg N h]
 unfold rwA
 simp
theorem qvf (m:Nat) (N:List Lk) (H:List Nat) {i:Nat} (h:i < H.length):rwA m N (H.take i) ++ [rwH (gn H i)] = rwA m N (H.take (i + 1)) :=by
 rw [qf8 H h]
 unfold rwA
 simp
theorem qg7 {m:Nat} {N:List Lk} {H:List Nat} {n:Nat} (h:N.length + H.length + 1 = n):qc6 (rwA m N H) (n * 1) = true :=by
 rw [Nat.mul_one,← h,← qve m N H]
 exact qcp _
theorem qff {N:List Lk} {H:List Nat} (i:Nat):(gB (lnsB N H) i).length ≤ 16 :=by
 unfold gB
 by_cases hi:i < (lnsB N H).length
 ·have hm:(lnsB N H).getD i [] ∈ lnsB N H :=by
   simp only [List.getD,hi,List.getElem?_eq_getElem,Option.getD_some]
   exact List.getElem_mem hi
  generalize (lnsB N H).getD i [] = s at hm
  unfold lnsB at hm
  rcases List.mem_cons.1 hm with rfl | hm
  ·exact Nat.le_trans (qgg _) (by decide)
  ·rcases List.mem_append.1 hm with hm | hm
   ·obtain ⟨x,_,rfl⟩ :=List.mem_map.1 hm
    exact qrh x
   ·obtain ⟨x,_,rfl⟩ :=List.mem_map.1 hm
    exact Nat.le_trans (qh0 _) (by decide)
 ·simp [List.getD,List.getElem?_eq_none (Nat.le_of_not_lt hi)]
theorem qcn (N:List Lk) (H:List Nat):(lnsB N H).length = N.length + 1 + H.length :=by
 unfold lnsB
 rw [List.length_cons,List.length_append,List.length_map,List.length_map]
 omega
theorem quw {s:List UInt8} {i:Nat}:∀ k,ckL s i k ≤ k * (256 * (k * (i + 1)))
 | 0 => Nat.zero_le _
 |k + 1 => by
  have ih :=@quw s i k
  rw [ckL]
  have hb:(s.getD k 0).toNat ≤ 256 :=Nat.le_of_lt (UInt8.toNat_lt _)
  have h1:k * (256 * (k * (i + 1))) ≤ k * (256 * ((k + 1) * (i + 1))) :=Nat.mul_le_mul_left _ (Nat.mul_le_mul_left _ (Nat.mul_le_mul_right _ (Nat.le_succ k)))
  have h2:(s.getD k 0).toNat * (k + 1) * (i + 1) ≤ 256 * ((k + 1) * (i + 1)) :=by rw [Nat.mul_assoc];exact Nat.mul_le_mul_right _ hb
  have h3:(k + 1) * (256 * ((k + 1) * (i + 1))) = k * (256 * ((k + 1) * (i + 1))) + 256 * ((k + 1) * (i + 1)) :=Nat.succ_mul _ _
  omega
theorem qf4 {s:List UInt8} {i k:Nat} (hk:k ≤ 16) (hi:i < 1000):ckL s i k ≤ 65536000 :=by
 refine Nat.le_trans (quw k) ?_
 have h1:k * (i + 1) ≤ 16 * 1000 :=Nat.mul_le_mul hk (by omega)
 have h2:256 * (k * (i + 1)) ≤ 256 * 16000 :=Nat.mul_le_mul_left _ h1
 exact Nat.le_trans (Nat.mul_le_mul hk h2) (by decide)
theorem qf3 {N:List Lk} {H:List Nat}:∀ i,i ≤ 1000 → ckN (lnsB N H) i ≤ i * 65536000
 | 0,_ => Nat.zero_le _
 |i + 1,h => by
  have ih :=@qf3 N H i (by omega)
  rw [ckN]
  have :=qf4 (s :=gB (lnsB N H) i) (i :=i) (qff (N :=N) (H :=H) i) (by omega)
  omega
theorem qb9 {N:List Lk} {H:List Nat}:∀ i,(ouB (lnsB N H) i).length ≤ i * 17
 | 0 => Nat.le_refl _
 |i + 1 => by
  have ih :=@qb9 N H i
  have :=@qff N H i
  rw [ouB,List.length_append,List.length_append]
  show _ + (_ + 1) ≤ _
  omega
theorem qe1 {c b k i:Nat} (hc:c ≤ 1000000000000) (hb:b ≤ 256) (hk:k ≤ 16) (hi:i < 1000):IntKind.i64.wrap (Int.ofNat c + IntKind.i64.wrap (IntKind.i64.wrap (IntKind.i64.wrap (Int.ofNat b) * IntKind.i64.wrap (Int.ofNat k + 1)) * IntKind.i64.wrap (Int.ofNat i + 1))) = Int.ofNat (c + b * (k + 1) * (i + 1)) :=by
 have h1:b * (k + 1) ≤ 256 * 17 :=Nat.mul_le_mul hb (by omega)
 have h2:b * (k + 1) * (i + 1) ≤ 256 * 17 * 1000 :=Nat.mul_le_mul h1 (by omega)
 rw [show IntKind.i64.wrap (Int.ofNat k + 1) = Int.ofNat (k + 1) from qaz (m :=k + 1) (by omega),show IntKind.i64.wrap (Int.ofNat i + 1) = Int.ofNat (i + 1) from qaz (m :=i + 1) (by omega)]
 rw [show IntKind.i64.wrap (Int.ofNat b) = Int.ofNat b from qaz (m :=b) (by omega)]
 rw [show IntKind.i64.wrap (Int.ofNat b * Int.ofNat (k + 1)) = Int.ofNat (b * (k + 1)) from qaz (m :=b * (k + 1)) (by omega)]
 rw [show IntKind.i64.wrap (Int.ofNat (b * (k + 1)) * Int.ofNat (i + 1)) = Int.ofNat (b * (k + 1) * (i + 1)) from qaz (m :=b * (k + 1) * (i + 1)) (by omega)]
 exact qaz (m :=c + b * (k + 1) * (i + 1)) (by omega)
theorem qgz {N:List Lk} {H:List Nat} (h:okT N H) (hN:N.length < 100) {i:Nat} (hi:i < N.length + 1 + H.length) :
  (nth (rwA N.length N H) (i * 1) = some (.iface 191 (nv N.length)) ∧ Pure prog 140 [.iface 191 (nv N.length)] (.str (gB (lnsB N H) i))) ∨ (∃ x:Lk,nth (rwA N.length N H) (i * 1) = some (.iface 193 (.agg [nv x.1,nv x.2.1,nv x.2.2])) ∧ Pure prog 140 [.iface 193 (.agg [nv x.1,nv x.2.1,nv x.2.2])] (.str (gB (lnsB N H) i))) ∨ (∃ n:Nat,nth (rwA N.length N H) (i * 1) = some (.iface 194 (nv n)) ∧ Pure prog 140 [.iface 194 (nv n)] (.str (gB (lnsB N H) i))) :=by
 rw [qhw,Nat.mul_one]
 unfold rwA lnsB gB
 cases i with
 |zero => exact .inl ⟨rfl,qoz hN⟩
 |succ i =>
  simp only [List.getElem?_cons_succ,List.getD_cons_succ]
  by_cases c:i < N.length
  ·refine .inr (.inl ⟨N[i],?_,?_⟩)
   ·rw [List.getElem?_append_left (by rw [List.length_map];exact c),List.getElem?_map,List.getElem?_eq_getElem c];rfl
   ·rw [List.getD,List.getElem?_append_left (by rw [List.length_map];exact c),List.getElem?_map,List.getElem?_eq_getElem c]
    have :=h.1 _ (List.getElem_mem c)
    exact qo0 this.1 this.2.1 this.2.2
  ·have d:i - N.length < H.length :=by omega
   refine .inr (.inr ⟨H[i - N.length],?_,?_⟩)
   ·rw [List.getElem?_append_right (by rw [List.length_map];omega),List.length_map,List.getElem?_map,List.getElem?_eq_getElem d];rfl
   ·rw [List.getD,List.getElem?_append_right (by rw [List.length_map];omega),List.length_map,List.getElem?_map,List.getElem?_eq_getElem d]
    exact qo1 (h.2 _ (List.getElem_mem d))
theorem qdj {x:Int} {m:Nat} (hx:x = Int.ofNat m) (hm:m < 100):Pure prog 141 [iv x] (.str (dec m)) :=by subst hx;exact qd4 hm
theorem qgn (c:Nat):IntKind.i64.wrap ((Int.tmod (Int.ofNat c) 127).tdiv 100) = Int.ofNat (c % 127 / 100) ∧ (IntKind.i64.wrap ((Int.tmod (Int.ofNat c) 127).tdiv 10)).tmod 10 = Int.ofNat (c % 127 / 10 % 10) ∧ (Int.tmod (Int.ofNat c) 127).tmod 10 = Int.ofNat (c % 127 % 10) :=by
 have h :=Nat.mod_lt c (show 0 < 127 by decide)
 refine ⟨qaz (m :=c % 127 / 100) (by omega),?_,rfl⟩
 rw [show IntKind.i64.wrap ((Int.tmod (Int.ofNat c) 127).tdiv 10) = Int.ofNat (c % 127 / 10) from qaz (m :=c % 127 / 10) (by omega)]
 rfl
theorem qw4 {N:List Lk} {H:List Nat} (h:okT N H) (hN:N.length < 100) (hH:H.length ≤ 400) (h1:1 ≤ N.length):Pure prog 90 [.agg [nkA N,nl (zl H)]] (.str (prtB N H)) :=by
 have lN :=qa5 (cL N)
 have lH :=qav (zl H)
 refine qas hE rfl (by repeat' first|exact trivial|assumption|exact qah _|exact fun _ h => nomatch h|apply And.intro) (by repeat' first|exact trivial|assumption|exact qah _|exact fun _ h => nomatch h|apply And.intro) fun S q pc hS hq hC hE => ?_
 conv => whnf
 refine qan hE hS ?_
 conv => whnf
 repeat ((first|refine qak (takP (qfc N h1)) ?_|refine qag (qae h1) ?_|refine qaf (qae h1) ?_|refine pkT (qae h1) ?_|refine qaa (qae h1) ?_|refine qal (qae h1) ?_|refine qam (qae h1) ?_|refine pkF (qae h1) ?_|refine qab (qae h1) ?_|refine qag (qaj h1) ?_|refine qaf (qaj h1) ?_|refine pkT (qaj h1) ?_|refine qaa (qaj h1) ?_|refine qad hS (by kernel_rfl) ?_);conv => whnf)
 refine qax hE hS (A :=Nat) [1,20,21] (fun i => [(3,.lst (rwA N.length (N.take i) []) (i + 1) (.ch 2)),(22,nv i)]) (fun i => [(2,.chain (i + 1) 1 196)]) (fun _ => []) (fun i => 1 ≤ i ∧ i ≤ N.length) (fun i => N.length - i) 1 (kle rfl) rfl (by refine ⟨rfl,rfl,rfl,rfl,rfl,rfl,3,rfl,?_,?_⟩ <;> repeat' (first|exact trivial|exact rfl|exact wkr rfl|exact wko rfl|exact Nat.zero_le _|exact ⟨_,rfl,WkV.int (qaz (m :=1) (by decide))⟩|exact ⟨_,rfl,WkV.eq (congrArg (fun z => AV.lst z 2 (.ch 2)) (qsv N.length N h1))⟩|exact qai lN|exact qai lH|exact qbg (qb4 _ _ _) (by decide)|exact kle rfl|exact bdq|exact mxI rfl|exact mxS rfl|apply And.intro)) ⟨Nat.le_refl _,h1⟩ ?_
 intro i ⟨hi,hiN⟩ K hK
 obtain rfl:K = 3 :=hK
 conv => whnf
 by_cases hi2:i < N.length
 ·have hi1:IntKind.i64.wrap (Int.ofNat i + 1) = Int.ofNat (i + 1) :=qaz (m :=i + 1) (by omega)
  have d1:decide ((i + 1 + (0 + 1)) * 16 ≤ 140737488355328) = true :=decide_eq_true (by omega)
  have d2:decide (i + 1 + (0 + 1) ≤ 9223372036854775807) = true :=decide_eq_true (by omega)
  have d3 :=qg7 (m :=N.length) (N :=N.take i) (H :=[]) (n :=i + 1) (by rw [List.length_take];simp only [List.length_nil];omega)
  have d4:decide (i + 1 = i + 1) = true :=decide_eq_true rfl
  repeat ((first|refine qak (takP (qfc N hi2)) ?_|refine qag (qae hi2) ?_|refine qaf (qae hi2) ?_|refine pkT (qae hi2) ?_|refine qaa (qae hi2) ?_|refine qal (qae hi2) ?_|refine qam (qae hi2) ?_|refine pkF (qae hi2) ?_|refine qab (qae hi2) ?_|refine qag (qaj hi2) ?_|refine qaf (qaj hi2) ?_|refine pkT (qaj hi2) ?_|refine qaa (qaj hi2) ?_|refine qag d1 ?_|refine qaf d1 ?_|refine pkT d1 ?_|refine qaa d1 ?_|refine qag d2 ?_|refine qaf d2 ?_|refine pkT d2 ?_|refine qaa d2 ?_|refine qag d3 ?_|refine qaf d3 ?_|refine pkT d3 ?_|refine qaa d3 ?_|refine qal d3 ?_|refine qam d3 ?_|refine pkF d3 ?_|refine qab d3 ?_|refine qag d4 ?_|refine qaf d4 ?_|refine pkT d4 ?_|refine qaa d4 ?_|refine qad hS (by kernel_rfl) ?_);conv => whnf)
  exact ⟨i + 1,⟨by omega,hi2⟩,by omega,kle rfl,(by refine ⟨rfl,rfl,rfl,rfl,rfl,rfl,3,rfl,?_,?_⟩ <;> repeat' (first|exact trivial|exact rfl|exact wkr rfl|exact wko rfl|exact Nat.zero_le _|exact ⟨_,rfl,WkV.int hi1⟩|exact ⟨_,rfl,WkV.eq (congrArg (fun z => AV.lst z (i + 1 + 1) (.ch 2)) (qsv N.length N hi2))⟩|exact qai lN|exact qai lH|exact qbg (qb4 _ _ _) (by decide)|exact kle rfl|exact bdq|exact mxI rfl|exact mxS rfl|apply And.intro))⟩
 ·refine qab (qbe hi2) ?_
  conv => whnf
  refine .inl ?_
  conv => whnf
  have hiE:i = N.length :=by omega
  have eR:AV.lst (rwA N.length (N.take i) []) (i + 1) (.ch 2) = .lst (rwA N.length N (H.take 0)) (N.length + 1 + 0) (.ch 2) :=by rw [hiE,List.take_length];rfl
  have eC:AObj.chain (i + 1) 1 196 = .chain (N.length + 1 + 0) 1 196 :=by rw [hiE]
  refine qax hE hS (A :=Nat) [1,33,34] (fun j => [(3,.lst (rwA N.length N (H.take j)) (N.length + 1 + j) (.ch 2)),(35,nv j)]) (fun j => [(2,.chain (N.length + 1 + j) 1 196)]) (fun _ => []) (fun j => j ≤ H.length) (fun j => H.length - j) 0 (kle rfl) rfl (by refine ⟨rfl,rfl,rfl,rfl,rfl,rfl,3,rfl,?_,?_⟩ <;> repeat' (first|exact trivial|exact rfl|exact wkr rfl|exact wko rfl|exact Nat.zero_le _|exact ⟨_,rfl,WkV.eq eR⟩|exact eC|exact qai lN|exact qai lH|exact qbg (qb4 _ _ _) (by decide)|exact kle rfl|exact bdq|exact mxI rfl|exact mxS rfl|apply And.intro)) (Nat.zero_le _) ?_
  intro j hj K hK
  obtain rfl:K = 3 :=hK
  conv => whnf
  by_cases hj2:j < H.length
  ·have hj1:IntKind.i64.wrap (Int.ofNat j + 1) = Int.ofNat (j + 1) :=qaz (m :=j + 1) (by omega)
   have hjz:j < (zl H).length :=by rw [qbs];exact hj2
   have gj:nth (ivs (zl H)) (j * 1) = some (nv (gn H j)) :=(qb5 (l :=zl H) (i :=j) hjz).trans (by rw [qgu H hj2])
   have d1:decide ((N.length + 1 + j + (0 + 1)) * 16 ≤ 140737488355328) = true :=decide_eq_true (by omega)
   have d2:decide (N.length + 1 + j + (0 + 1) ≤ 9223372036854775807) = true :=decide_eq_true (by omega)
   have d3 :=qg7 (m :=N.length) (N :=N) (H :=H.take j) (n :=N.length + 1 + j) (by rw [List.length_take];omega)
   have d4:decide (N.length + 1 + j = N.length + 1 + j) = true :=decide_eq_true rfl
   repeat ((first|refine qak (nthP gj) ?_|refine qag (qae hjz) ?_|refine qaf (qae hjz) ?_|refine pkT (qae hjz) ?_|refine qaa (qae hjz) ?_|refine qal (qae hjz) ?_|refine qam (qae hjz) ?_|refine pkF (qae hjz) ?_|refine qab (qae hjz) ?_|refine qag (qaj hjz) ?_|refine qaf (qaj hjz) ?_|refine pkT (qaj hjz) ?_|refine qaa (qaj hjz) ?_|refine qag d1 ?_|refine qaf d1 ?_|refine pkT d1 ?_|refine qaa d1 ?_|refine qag d2 ?_|refine qaf d2 ?_|refine pkT d2 ?_|refine qaa d2 ?_|refine qag d3 ?_|refine qaf d3 ?_|refine pkT d3 ?_|refine qaa d3 ?_|refine qal d3 ?_|refine qam d3 ?_|refine pkF d3 ?_|refine qab d3 ?_|refine qag d4 ?_|refine qaf d4 ?_|refine pkT d4 ?_|refine qaa d4 ?_|refine qad hS (by kernel_rfl) ?_);conv => whnf)
   exact ⟨j + 1,hj2,by omega,kle rfl,(by refine ⟨rfl,rfl,rfl,rfl,rfl,rfl,3,rfl,?_,?_⟩ <;> repeat' (first|exact trivial|exact rfl|exact wkr rfl|exact wko rfl|exact Nat.zero_le _|exact ⟨_,rfl,WkV.int hj1⟩|exact ⟨_,rfl,WkV.eq (congrArg (fun z => AV.lst z (N.length + 1 + j + 1) (.ch 2)) (qvf N.length N H hj2))⟩|exact qai lN|exact qai lH|exact qbg (qb4 _ _ _) (by decide)|exact kle rfl|exact bdq|exact mxI rfl|exact mxS rfl|apply And.intro))⟩
  ·refine qab (qbe (show ¬ j < (zl H).length by rw [qbs];exact hj2)) ?_
   conv => whnf
   refine .inl ?_
   conv => whnf
   have hjE:j = H.length :=by omega
   have eR2:AV.lst (rwA N.length N (H.take j)) (N.length + 1 + j) (.ch 2) = .lst (rwA N.length N H) (N.length + 1 + H.length) (.ch 2) :=by rw [hjE,List.take_length]
   have eN2:Int.ofNat (N.length + 1 + j) = Int.ofNat (N.length + 1 + H.length) :=by rw [hjE]
   refine qax hE hS (A :=Nat) [] (fun i => [(45,.lst (rwA N.length N H) (N.length + 1 + H.length) (.ch 2)),(46,nv (N.length + 1 + H.length)),(8,.str (ouB (lnsB N H) i)),(9,nv (ckN (lnsB N H) i)),(47,nv i)]) (fun _ => []) (fun _ => []) (fun i => i ≤ N.length + 1 + H.length) (fun i => N.length + 1 + H.length - i) 0 (kle rfl) rfl (by refine ⟨rfl,rfl,rfl,rfl,rfl,rfl,3,rfl,?_,?_⟩ <;> repeat' (first|exact trivial|exact rfl|exact wkr rfl|exact wko rfl|exact Nat.zero_le _|exact ⟨_,rfl,WkV.eq eR2⟩|exact ⟨_,rfl,WkV.int eN2⟩|exact qai lN|exact qai lH|exact qbg (qb4 _ _ _) (by decide)|exact kle rfl|exact bdq|exact mxI rfl|exact mxS rfl|apply And.intro)) (Nat.zero_le _) ?_
   intro i hi K hK
   obtain rfl:K = 3 :=hK
   conv => whnf
   by_cases hi2:i < N.length + 1 + H.length
   ·have hi1:IntKind.i64.wrap (Int.ofNat i + 1) = Int.ofNat (i + 1) :=qaz (m :=i + 1) (by omega)
    have hs :=@qff N H i
    refine Or.elim (qgz h hN hi2) (fun hr => ?_) fun hr => Or.elim hr (fun hr => Exists.elim hr fun x hr => ?_) fun hr => Exists.elim hr fun x hr => ?_
    all_goals
     have gr :=hr.1
     have pl :=hr.2
     have hw :=@qf3 N H i (by omega)
     repeat ((first|refine qak (nthP gr) ?_|refine qag (qae hi2) ?_|refine qaf (qae hi2) ?_|refine pkT (qae hi2) ?_|refine qaa (qae hi2) ?_|refine qal (qae hi2) ?_|refine qam (qae hi2) ?_|refine pkF (qae hi2) ?_|refine qab (qae hi2) ?_|refine qag (qaj hi2) ?_|refine qaf (qaj hi2) ?_|refine pkT (qaj hi2) ?_|refine qaa (qaj hi2) ?_|refine qac hC (pl) ?_|refine qad hS (by kernel_rfl) ?_);conv => whnf)
     refine qax hE hS (A :=Nat) [45,46,8,10,12,47,55] (fun k => [(9,nv (ckN (lnsB N H) i + ckL (gB (lnsB N H) i) i k)),(56,nv k)]) (fun _ => []) (fun _ => []) (fun k => k ≤ (gB (lnsB N H) i).length) (fun k => (gB (lnsB N H) i).length - k) 0 (kle rfl) rfl (by refine ⟨rfl,rfl,rfl,rfl,rfl,rfl,3,rfl,?_,?_⟩ <;> repeat' (first|exact trivial|exact rfl|exact wkr rfl|exact wko rfl|exact Nat.zero_le _|exact qai lN|exact qai lH|exact qbg (qb4 _ _ _) (by decide)|exact kle rfl|exact bdq|exact mxI rfl|exact mxS rfl|apply And.intro)) (Nat.zero_le _) ?_
     intro k hk K hK
     obtain rfl:K = 3 :=hK
     conv => whnf
     by_cases hk2:k < (gB (lnsB N H) i).length
     ·have hk1:IntKind.i64.wrap (Int.ofNat k + 1) = Int.ofNat (k + 1) :=qaz (m :=k + 1) (by omega)
      have hc :=qf4 (s :=gB (lnsB N H) i) (i :=i) (k :=k) (by omega) (by omega)
      have hb:((gB (lnsB N H) i).getD k 0).toNat ≤ 256 :=Nat.le_of_lt (UInt8.toNat_lt _)
      have ew:_ = Int.ofNat (ckN (lnsB N H) i + ckL (gB (lnsB N H) i) i (k + 1)) :=(qe1 (c :=ckN (lnsB N H) i + ckL (gB (lnsB N H) i) i k) (by omega) hb (show k ≤ 16 by omega) (show i < 1000 by omega)).trans (by rw [ckL,Nat.add_assoc])
      repeat ((first|refine qak (qco hk2) ?_|refine qag (qae hk2) ?_|refine qaf (qae hk2) ?_|refine pkT (qae hk2) ?_|refine qaa (qae hk2) ?_|refine qal (qae hk2) ?_|refine qam (qae hk2) ?_|refine pkF (qae hk2) ?_|refine qab (qae hk2) ?_|refine qag (qaj hk2) ?_|refine qaf (qaj hk2) ?_|refine pkT (qaj hk2) ?_|refine qaa (qaj hk2) ?_|refine qad hS (by kernel_rfl) ?_);conv => whnf)
      exact ⟨k + 1,hk2,by omega,Nat.le_refl _,(by refine ⟨rfl,rfl,rfl,rfl,rfl,rfl,3,rfl,?_,?_⟩ <;> repeat' (first|exact trivial|exact rfl|exact wkr rfl|exact wko rfl|exact Nat.zero_le _|exact ⟨_,rfl,WkV.int hk1⟩|exact ⟨_,rfl,WkV.int ew⟩|exact qai lN|exact qai lH|exact qbg (qb4 _ _ _) (by decide)|exact kle rfl|exact bdq|exact mxI rfl|exact mxS rfl|apply And.intro))⟩
     ·refine qab (qbe hk2) ?_
      conv => whnf
      refine .inl ?_
      conv => whnf
      have hkE:k = (gB (lnsB N H) i).length :=by omega
      have o1 :=@qb9 N H i
      have o2 :=qa8 hs (Nat.le_refl ([10]:List UInt8).length)
      have o3 :=qa8 o1 o2
      have o4:(ouB (lnsB N H) i ++ (gB (lnsB N H) i ++ [10])).length ≤ 1000000 :=by simp only [List.length_cons,List.length_nil] at o3;omega
      repeat ((first|refine qag (stOk (mil o2 rfl)) ?_|refine qaf (stOk (mil o2 rfl)) ?_|refine pkT (stOk (mil o2 rfl)) ?_|refine qaa (stOk (mil o2 rfl)) ?_|refine qal (stOk (mil o2 rfl)) ?_|refine qam (stOk (mil o2 rfl)) ?_|refine pkF (stOk (mil o2 rfl)) ?_|refine qab (stOk (mil o2 rfl)) ?_|refine qag (stOk o4) ?_|refine qaf (stOk o4) ?_|refine pkT (stOk o4) ?_|refine qaa (stOk o4) ?_|refine qal (stOk o4) ?_|refine qam (stOk o4) ?_|refine pkF (stOk o4) ?_|refine qab (stOk o4) ?_|refine qad hS (by kernel_rfl) ?_);conv => whnf)
      exact ⟨i + 1,hi2,by omega,Nat.le_refl _,(by refine ⟨rfl,rfl,rfl,rfl,rfl,rfl,3,rfl,?_,?_⟩ <;> repeat' (first|exact trivial|exact rfl|exact wkr rfl|exact wko rfl|exact Nat.zero_le _|exact ⟨_,rfl,WkV.int hi1⟩|exact ⟨_,rfl,WkV.int (show Int.ofNat (ckN (lnsB N H) i + ckL (gB (lnsB N H) i) i k) = Int.ofNat (ckN (lnsB N H) (i + 1)) by rw [ckN,hkE])⟩|exact qai lN|exact qai lH|exact qbg (qb4 _ _ _) (by decide)|exact kle rfl|exact bdq|exact mxI rfl|exact mxS rfl|apply And.intro))⟩
   ·have hiE2:i = (lnsB N H).length :=by rw [qcn];omega
    have t :=qgn (ckN (lnsB N H) i)
    have hm :=Nat.mod_lt (ckN (lnsB N H) i) (show 0 < 127 by decide)
    have p1 :=qdj t.1 (by omega)
    have p2 :=qdj t.2.1 (by omega)
    have p3 :=qdj t.2.2 (by omega)
    have o1 :=@qb9 N H i
    have o2:(ouB (lnsB N H) i ++ [101,110,100,32]).length ≤ 10000 :=by rw [List.length_append];show _ + 4 ≤ _;omega
    have o3 :=qa8 o2 (qbi (ckN (lnsB N H) i % 127 / 100))
    have o4 :=qa8 o3 (qbi (ckN (lnsB N H) i % 127 / 10 % 10))
    have o5 :=qa8 o4 (qbi (ckN (lnsB N H) i % 127 % 10))
    have o6 :=qa8 o5 (Nat.le_refl ([10]:List UInt8).length)
    refine qab (qbe hi2) ?_
    conv => whnf
    refine .inl ?_
    conv => whnf
    repeat ((first|refine qag (stOk (mil o2 rfl)) ?_|refine qaf (stOk (mil o2 rfl)) ?_|refine pkT (stOk (mil o2 rfl)) ?_|refine qaa (stOk (mil o2 rfl)) ?_|refine qal (stOk (mil o2 rfl)) ?_|refine qam (stOk (mil o2 rfl)) ?_|refine pkF (stOk (mil o2 rfl)) ?_|refine qab (stOk (mil o2 rfl)) ?_|refine qag (stOk (mil o3 rfl)) ?_|refine qaf (stOk (mil o3 rfl)) ?_|refine pkT (stOk (mil o3 rfl)) ?_|refine qaa (stOk (mil o3 rfl)) ?_|refine qal (stOk (mil o3 rfl)) ?_|refine qam (stOk (mil o3 rfl)) ?_|refine pkF (stOk (mil o3 rfl)) ?_|refine qab (stOk (mil o3 rfl)) ?_|refine qag (stOk (mil o4 rfl)) ?_|refine qaf (stOk (mil o4 rfl)) ?_|refine pkT (stOk (mil o4 rfl)) ?_|refine qaa (stOk (mil o4 rfl)) ?_|refine qal (stOk (mil o4 rfl)) ?_|refine qam (stOk (mil o4 rfl)) ?_|refine pkF (stOk (mil o4 rfl)) ?_|refine qab (stOk (mil o4 rfl)) ?_|refine qag (stOk (mil o5 rfl)) ?_|refine qaf (stOk (mil o5 rfl)) ?_|refine pkT (stOk (mil o5 rfl)) ?_|refine qaa (stOk (mil o5 rfl)) ?_|refine qal (stOk (mil o5 rfl)) ?_|refine qam (stOk (mil o5 rfl)) ?_|refine pkF (stOk (mil o5 rfl)) ?_|refine qab (stOk (mil o5 rfl)) ?_|refine qag (stOk (mil o6 rfl)) ?_|refine qaf (stOk (mil o6 rfl)) ?_|refine pkT (stOk (mil o6 rfl)) ?_|refine qaa (stOk (mil o6 rfl)) ?_|refine qal (stOk (mil o6 rfl)) ?_|refine qam (stOk (mil o6 rfl)) ?_|refine pkF (stOk (mil o6 rfl)) ?_|refine qab (stOk (mil o6 rfl)) ?_|refine qac hC (p1) ?_|refine qac hC (p2) ?_|refine qac hC (p3) ?_|refine qad hS (by kernel_rfl) ?_);conv => whnf)
    exact ⟨_,rfl,wk_s (by unfold prtB finB;rw [← hiE2])⟩
theorem qw3 {N:List Lk} {H:List Nat} (h:okT N H) (hN:N.length < 100) (hH0:H = []) (h1:1 ≤ N.length):Pure prog 90 [.agg [nkA N,.nils]] (.str (prtB N H)) :=by
 have lN :=qa5 (cL N)
 have hH:H.length ≤ 400 :=by rw [hH0];exact Nat.zero_le _
 refine qas hE rfl (by repeat' first|exact trivial|assumption|exact qah _|exact fun _ h => nomatch h|apply And.intro) (by repeat' first|exact trivial|assumption|exact qah _|exact fun _ h => nomatch h|apply And.intro) fun S q pc hS hq hC hE => ?_
 conv => whnf
 refine qan hE hS ?_
 conv => whnf
 repeat ((first|refine qak (takP (qfc N h1)) ?_|refine qag (qae h1) ?_|refine qaf (qae h1) ?_|refine pkT (qae h1) ?_|refine qaa (qae h1) ?_|refine qal (qae h1) ?_|refine qam (qae h1) ?_|refine pkF (qae h1) ?_|refine qab (qae h1) ?_|refine qag (qaj h1) ?_|refine qaf (qaj h1) ?_|refine pkT (qaj h1) ?_|refine qaa (qaj h1) ?_|refine qad hS (by kernel_rfl) ?_);conv => whnf)
 refine qax hE hS (A :=Nat) [1,20,21] (fun i => [(3,.lst (rwA N.length (N.take i) []) (i + 1) (.ch 2)),(22,nv i)]) (fun i => [(2,.chain (i + 1) 1 196)]) (fun _ => []) (fun i => 1 ≤ i ∧ i ≤ N.length) (fun i => N.length - i) 1 (kle rfl) rfl (by refine ⟨rfl,rfl,rfl,rfl,rfl,rfl,3,rfl,?_,?_⟩ <;> repeat' (first|exact trivial|exact rfl|exact wkr rfl|exact wko rfl|exact Nat.zero_le _|exact ⟨_,rfl,WkV.int (qaz (m :=1) (by decide))⟩|exact ⟨_,rfl,WkV.eq (congrArg (fun z => AV.lst z 2 (.ch 2)) (qsv N.length N h1))⟩|exact qai lN|exact qai lH|exact qbg (qb4 _ _ _) (by decide)|exact kle rfl|exact bdq|exact mxI rfl|exact mxS rfl|apply And.intro)) ⟨Nat.le_refl _,h1⟩ ?_
 intro i ⟨hi,hiN⟩ K hK
 obtain rfl:K = 3 :=hK
 conv => whnf
 by_cases hi2:i < N.length
 ·have hi1:IntKind.i64.wrap (Int.ofNat i + 1) = Int.ofNat (i + 1) :=qaz (m :=i + 1) (by omega)
  have d1:decide ((i + 1 + (0 + 1)) * 16 ≤ 140737488355328) = true :=decide_eq_true (by omega)
  have d2:decide (i + 1 + (0 + 1) ≤ 9223372036854775807) = true :=decide_eq_true (by omega)
  have d3 :=qg7 (m :=N.length) (N :=N.take i) (H :=[]) (n :=i + 1) (by rw [List.length_take];simp only [List.length_nil];omega)
  have d4:decide (i + 1 = i + 1) = true :=decide_eq_true rfl
  repeat ((first|refine qak (takP (qfc N hi2)) ?_|refine qag (qae hi2) ?_|refine qaf (qae hi2) ?_|refine pkT (qae hi2) ?_|refine qaa (qae hi2) ?_|refine qal (qae hi2) ?_|refine qam (qae hi2) ?_|refine pkF (qae hi2) ?_|refine qab (qae hi2) ?_|refine qag (qaj hi2) ?_|refine qaf (qaj hi2) ?_|refine pkT (qaj hi2) ?_|refine qaa (qaj hi2) ?_|refine qag d1 ?_|refine qaf d1 ?_|refine pkT d1 ?_|refine qaa d1 ?_|refine qag d2 ?_|refine qaf d2 ?_|refine pkT d2 ?_|refine qaa d2 ?_|refine qag d3 ?_|refine qaf d3 ?_|refine pkT d3 ?_|refine qaa d3 ?_|refine qal d3 ?_|refine qam d3 ?_|refine pkF d3 ?_|refine qab d3 ?_|refine qag d4 ?_|refine qaf d4 ?_|refine pkT d4 ?_|refine qaa d4 ?_|refine qad hS (by kernel_rfl) ?_);conv => whnf)
  exact ⟨i + 1,⟨by omega,hi2⟩,by omega,kle rfl,(by refine ⟨rfl,rfl,rfl,rfl,rfl,rfl,3,rfl,?_,?_⟩ <;> repeat' (first|exact trivial|exact rfl|exact wkr rfl|exact wko rfl|exact Nat.zero_le _|exact ⟨_,rfl,WkV.int hi1⟩|exact ⟨_,rfl,WkV.eq (congrArg (fun z => AV.lst z (i + 1 + 1) (.ch 2)) (qsv N.length N hi2))⟩|exact qai lN|exact qai lH|exact qbg (qb4 _ _ _) (by decide)|exact kle rfl|exact bdq|exact mxI rfl|exact mxS rfl|apply And.intro))⟩
 ·refine qab (qbe hi2) ?_
  conv => whnf
  refine .inl ?_
  conv => whnf
  have hiE:i = N.length :=by omega
  have eR2:AV.lst (rwA N.length (N.take i) []) (i + 1) (.ch 2) = .lst (rwA N.length N H) (N.length + 1 + H.length) (.ch 2) :=by rw [hiE,List.take_length,hH0];rfl
  have eN2:Int.ofNat (i + 1) = Int.ofNat (N.length + 1 + H.length) :=by rw [hiE,hH0];rfl
  refine qan hE hS ?_
  conv => whnf
  repeat ((first|refine qad hS (by kernel_rfl) ?_);conv => whnf)
  refine qax hE hS (A :=Nat) [] (fun i => [(45,.lst (rwA N.length N H) (N.length + 1 + H.length) (.ch 2)),(46,nv (N.length + 1 + H.length)),(8,.str (ouB (lnsB N H) i)),(9,nv (ckN (lnsB N H) i)),(47,nv i)]) (fun _ => []) (fun _ => []) (fun i => i ≤ N.length + 1 + H.length) (fun i => N.length + 1 + H.length - i) 0 (kle rfl) rfl (by refine ⟨rfl,rfl,rfl,rfl,rfl,rfl,3,rfl,?_,?_⟩ <;> repeat' (first|exact trivial|exact rfl|exact wkr rfl|exact wko rfl|exact Nat.zero_le _|exact ⟨_,rfl,WkV.eq eR2⟩|exact ⟨_,rfl,WkV.int eN2⟩|exact qai lN|exact qbg (qb4 _ _ _) (by decide)|exact kle rfl|exact bdq|exact mxI rfl|exact mxS rfl|apply And.intro)) (Nat.zero_le _) ?_
  intro i hi K hK
  obtain rfl:K = 3 :=hK
  conv => whnf
  by_cases hi2:i < N.length + 1 + H.length
  ·have hi1:IntKind.i64.wrap (Int.ofNat i + 1) = Int.ofNat (i + 1) :=qaz (m :=i + 1) (by omega)
   have hs :=@qff N H i
   refine Or.elim (qgz h hN hi2) (fun hr => ?_) fun hr => Or.elim hr (fun hr => Exists.elim hr fun x hr => ?_) fun hr => Exists.elim hr fun x hr => ?_
   all_goals
    have gr :=hr.1
    have pl :=hr.2
    have hw :=@qf3 N H i (by omega)
    repeat ((first|refine qak (nthP gr) ?_|refine qag (qae hi2) ?_|refine qaf (qae hi2) ?_|refine pkT (qae hi2) ?_|refine qaa (qae hi2) ?_|refine qal (qae hi2) ?_|refine qam (qae hi2) ?_|refine pkF (qae hi2) ?_|refine qab (qae hi2) ?_|refine qag (qaj hi2) ?_|refine qaf (qaj hi2) ?_|refine pkT (qaj hi2) ?_|refine qaa (qaj hi2) ?_|refine qac hC (pl) ?_|refine qad hS (by kernel_rfl) ?_);conv => whnf)
    refine qax hE hS (A :=Nat) [45,46,8,10,12,47,55] (fun k => [(9,nv (ckN (lnsB N H) i + ckL (gB (lnsB N H) i) i k)),(56,nv k)]) (fun _ => []) (fun _ => []) (fun k => k ≤ (gB (lnsB N H) i).length) (fun k => (gB (lnsB N H) i).length - k) 0 (kle rfl) rfl (by refine ⟨rfl,rfl,rfl,rfl,rfl,rfl,3,rfl,?_,?_⟩ <;> repeat' (first|exact trivial|exact rfl|exact wkr rfl|exact wko rfl|exact Nat.zero_le _|exact qai lN|exact qbg (qb4 _ _ _) (by decide)|exact kle rfl|exact bdq|exact mxI rfl|exact mxS rfl|apply And.intro)) (Nat.zero_le _) ?_
    intro k hk K hK
    obtain rfl:K = 3 :=hK
    conv => whnf
    by_cases hk2:k < (gB (lnsB N H) i).length
    ·have hk1:IntKind.i64.wrap (Int.ofNat k + 1) = Int.ofNat (k + 1) :=qaz (m :=k + 1) (by omega)
     have hc :=qf4 (s :=gB (lnsB N H) i) (i :=i) (k :=k) (by omega) (by omega)
     have hb:((gB (lnsB N H) i).getD k 0).toNat ≤ 256 :=Nat.le_of_lt (UInt8.toNat_lt _)
     have ew:_ = Int.ofNat (ckN (lnsB N H) i + ckL (gB (lnsB N H) i) i (k + 1)) :=(qe1 (c :=ckN (lnsB N H) i + ckL (gB (lnsB N H) i) i k) (by omega) hb (show k ≤ 16 by omega) (show i < 1000 by omega)).trans (by rw [ckL,Nat.add_assoc])
     repeat ((first|refine qak (qco hk2) ?_|refine qag (qae hk2) ?_|refine qaf (qae hk2) ?_|refine pkT (qae hk2) ?_|refine qaa (qae hk2) ?_|refine qal (qae hk2) ?_|refine qam (qae hk2) ?_|refine pkF (qae hk2) ?_|refine qab (qae hk2) ?_|refine qag (qaj hk2) ?_|refine qaf (qaj hk2) ?_|refine pkT (qaj hk2) ?_|refine qaa (qaj hk2) ?_|refine qad hS (by kernel_rfl) ?_);conv => whnf)
     exact ⟨k + 1,hk2,by omega,Nat.le_refl _,(by refine ⟨rfl,rfl,rfl,rfl,rfl,rfl,3,rfl,?_,?_⟩ <;> repeat' (first|exact trivial|exact rfl|exact wkr rfl|exact wko rfl|exact Nat.zero_le _|exact ⟨_,rfl,WkV.int hk1⟩|exact ⟨_,rfl,WkV.int ew⟩|exact qai lN|exact qbg (qb4 _ _ _) (by decide)|exact kle rfl|exact bdq|exact mxI rfl|exact mxS rfl|apply And.intro))⟩
    ·refine qab (qbe hk2) ?_
     conv => whnf
     refine .inl ?_
     conv => whnf
     have hkE:k = (gB (lnsB N H) i).length :=by omega
     have o1 :=@qb9 N H i
     have o2 :=qa8 hs (Nat.le_refl ([10]:List UInt8).length)
     have o3 :=qa8 o1 o2
     have o4:(ouB (lnsB N H) i ++ (gB (lnsB N H) i ++ [10])).length ≤ 1000000 :=by simp only [List.length_cons,List.length_nil] at o3;omega
     repeat ((first|refine qag (stOk (mil o2 rfl)) ?_|refine qaf (stOk (mil o2 rfl)) ?_|refine pkT (stOk (mil o2 rfl)) ?_|refine qaa (stOk (mil o2 rfl)) ?_|refine qal (stOk (mil o2 rfl)) ?_|refine qam (stOk (mil o2 rfl)) ?_|refine pkF (stOk (mil o2 rfl)) ?_|refine qab (stOk (mil o2 rfl)) ?_|refine qag (stOk o4) ?_|refine qaf (stOk o4) ?_|refine pkT (stOk o4) ?_|refine qaa (stOk o4) ?_|refine qal (stOk o4) ?_|refine qam (stOk o4) ?_|refine pkF (stOk o4) ?_|refine qab (stOk o4) ?_|refine qad hS (by kernel_rfl) ?_);conv => whnf)
     exact ⟨i + 1,hi2,by omega,Nat.le_refl _,(by refine ⟨rfl,rfl,rfl,rfl,rfl,rfl,3,rfl,?_,?_⟩ <;> repeat' (first|exact trivial|exact rfl|exact wkr rfl|exact wko rfl|exact Nat.zero_le _|exact ⟨_,rfl,WkV.int hi1⟩|exact ⟨_,rfl,WkV.int (show Int.ofNat (ckN (lnsB N H) i + ckL (gB (lnsB N H) i) i k) = Int.ofNat (ckN (lnsB N H) (i + 1)) by rw [ckN,hkE])⟩|exact qai lN|exact qbg (qb4 _ _ _) (by decide)|exact kle rfl|exact bdq|exact mxI rfl|exact mxS rfl|apply And.intro))⟩
  ·have hiE2:i = (lnsB N H).length :=by rw [qcn];omega
   have t :=qgn (ckN (lnsB N H) i)
   have hm :=Nat.mod_lt (ckN (lnsB N H) i) (show 0 < 127 by decide)
   have p1 :=qdj t.1 (by omega)
   have p2 :=qdj t.2.1 (by omega)
   have p3 :=qdj t.2.2 (by omega)
   have o1 :=@qb9 N H i
   have o2:(ouB (lnsB N H) i ++ [101,110,100,32]).length ≤ 10000 :=by rw [List.length_append];show _ + 4 ≤ _;omega
   have o3 :=qa8 o2 (qbi (ckN (lnsB N H) i % 127 / 100))
   have o4 :=qa8 o3 (qbi (ckN (lnsB N H) i % 127 / 10 % 10))
   have o5 :=qa8 o4 (qbi (ckN (lnsB N H) i % 127 % 10))
   have o6 :=qa8 o5 (Nat.le_refl ([10]:List UInt8).length)
   refine qab (qbe hi2) ?_
   conv => whnf
   refine .inl ?_
   conv => whnf
   repeat ((first|refine qag (stOk (mil o2 rfl)) ?_|refine qaf (stOk (mil o2 rfl)) ?_|refine pkT (stOk (mil o2 rfl)) ?_|refine qaa (stOk (mil o2 rfl)) ?_|refine qal (stOk (mil o2 rfl)) ?_|refine qam (stOk (mil o2 rfl)) ?_|refine pkF (stOk (mil o2 rfl)) ?_|refine qab (stOk (mil o2 rfl)) ?_|refine qag (stOk (mil o3 rfl)) ?_|refine qaf (stOk (mil o3 rfl)) ?_|refine pkT (stOk (mil o3 rfl)) ?_|refine qaa (stOk (mil o3 rfl)) ?_|refine qal (stOk (mil o3 rfl)) ?_|refine qam (stOk (mil o3 rfl)) ?_|refine pkF (stOk (mil o3 rfl)) ?_|refine qab (stOk (mil o3 rfl)) ?_|refine qag (stOk (mil o4 rfl)) ?_|refine qaf (stOk (mil o4 rfl)) ?_|refine pkT (stOk (mil o4 rfl)) ?_|refine qaa (stOk (mil o4 rfl)) ?_|refine qal (stOk (mil o4 rfl)) ?_|refine qam (stOk (mil o4 rfl)) ?_|refine pkF (stOk (mil o4 rfl)) ?_|refine qab (stOk (mil o4 rfl)) ?_|refine qag (stOk (mil o5 rfl)) ?_|refine qaf (stOk (mil o5 rfl)) ?_|refine pkT (stOk (mil o5 rfl)) ?_|refine qaa (stOk (mil o5 rfl)) ?_|refine qal (stOk (mil o5 rfl)) ?_|refine qam (stOk (mil o5 rfl)) ?_|refine pkF (stOk (mil o5 rfl)) ?_|refine qab (stOk (mil o5 rfl)) ?_|refine qag (stOk (mil o6 rfl)) ?_|refine qaf (stOk (mil o6 rfl)) ?_|refine pkT (stOk (mil o6 rfl)) ?_|refine qaa (stOk (mil o6 rfl)) ?_|refine qal (stOk (mil o6 rfl)) ?_|refine qam (stOk (mil o6 rfl)) ?_|refine pkF (stOk (mil o6 rfl)) ?_|refine qab (stOk (mil o6 rfl)) ?_|refine qac hC (p1) ?_|refine qac hC (p2) ?_|refine qac hC (p3) ?_|refine qad hS (by kernel_rfl) ?_);conv => whnf)
   exact ⟨_,rfl,wk_s (by unfold prtB finB;rw [← hiE2])⟩
theorem qw2 {N:List Lk} {H:List Nat} (h:okT N H) (hN0:N = []) (hH:H.length ≤ 400) (h1:1 ≤ H.length):Pure prog 90 [.agg [.nils,nl (zl H)]] (.str (prtB N H)) :=by
 have lH :=qav (zl H)
 have hN:N.length < 100 :=by rw [hN0];exact kle rfl
 have hjz:0 < (zl H).length :=by rw [qbs];exact h1
 have gj:nth (ivs (zl H)) (0 * 1) = some (nv (gn H 0)) :=(qb5 (l :=zl H) (i :=0) hjz).trans (by rw [qgu H h1])
 have eR:AV.lst (rwA 0 [] (H.take 0) ++ [rwH (gn H 0)]) 2 (.ch 1) = .lst (rwA N.length N (H.take 1)) (N.length + 1 + 1) (.ch 1) :=by rw [qvf 0 [] H h1,hN0];rfl
 have eC:AObj.chain 2 1 196 = .chain (N.length + 1 + 1) 1 196 :=by rw [hN0];rfl
 refine qas hE rfl (by repeat' first|exact trivial|assumption|exact qah _|exact fun _ h => nomatch h|apply And.intro) (by repeat' first|exact trivial|assumption|exact qah _|exact fun _ h => nomatch h|apply And.intro) fun S q pc hS hq hC hE => ?_
 conv => whnf
 refine qan hE hS ?_
 conv => whnf
 repeat ((first|refine qad hS (by kernel_rfl) ?_);conv => whnf)
 refine qan hE hS ?_
 conv => whnf
 repeat ((first|refine qak (nthP gj) ?_|refine qag (qae hjz) ?_|refine qaf (qae hjz) ?_|refine pkT (qae hjz) ?_|refine qaa (qae hjz) ?_|refine qal (qae hjz) ?_|refine qam (qae hjz) ?_|refine pkF (qae hjz) ?_|refine qab (qae hjz) ?_|refine qag (qaj hjz) ?_|refine qaf (qaj hjz) ?_|refine pkT (qaj hjz) ?_|refine qaa (qaj hjz) ?_|refine qad hS (by kernel_rfl) ?_);conv => whnf)
 refine qax hE hS (A :=Nat) [1,33,34] (fun j => [(3,.lst (rwA N.length N (H.take j)) (N.length + 1 + j) (.ch 1)),(35,nv j)]) (fun j => [(1,.chain (N.length + 1 + j) 1 196)]) (fun _ => []) (fun j => j ≤ H.length) (fun j => H.length - j) 1 (kle rfl) rfl (by refine ⟨rfl,rfl,rfl,rfl,rfl,rfl,2,rfl,?_,?_⟩ <;> repeat' (first|exact trivial|exact rfl|exact wkr rfl|exact wko rfl|exact Nat.zero_le _|exact ⟨_,rfl,WkV.int (qaz (m :=1) (by decide))⟩|exact ⟨_,rfl,WkV.eq eR⟩|exact eC|exact qai lH|exact qbg (qb4 _ _ _) (by decide)|exact kle rfl|exact bdq|exact mxI rfl|exact mxS rfl|apply And.intro)) h1 ?_
 intro j hj K hK
 obtain rfl:K = 2 :=hK
 conv => whnf
 by_cases hj2:j < H.length
 ·have hj1:IntKind.i64.wrap (Int.ofNat j + 1) = Int.ofNat (j + 1) :=qaz (m :=j + 1) (by omega)
  have hjz:j < (zl H).length :=by rw [qbs];exact hj2
  have gj:nth (ivs (zl H)) (j * 1) = some (nv (gn H j)) :=(qb5 (l :=zl H) (i :=j) hjz).trans (by rw [qgu H hj2])
  have d1:decide ((N.length + 1 + j + (0 + 1)) * 16 ≤ 140737488355328) = true :=decide_eq_true (by omega)
  have d2:decide (N.length + 1 + j + (0 + 1) ≤ 9223372036854775807) = true :=decide_eq_true (by omega)
  have d3 :=qg7 (m :=N.length) (N :=N) (H :=H.take j) (n :=N.length + 1 + j) (by rw [List.length_take];omega)
  have d4:decide (N.length + 1 + j = N.length + 1 + j) = true :=decide_eq_true rfl
  repeat ((first|refine qak (nthP gj) ?_|refine qag (qae hjz) ?_|refine qaf (qae hjz) ?_|refine pkT (qae hjz) ?_|refine qaa (qae hjz) ?_|refine qal (qae hjz) ?_|refine qam (qae hjz) ?_|refine pkF (qae hjz) ?_|refine qab (qae hjz) ?_|refine qag (qaj hjz) ?_|refine qaf (qaj hjz) ?_|refine pkT (qaj hjz) ?_|refine qaa (qaj hjz) ?_|refine qag d1 ?_|refine qaf d1 ?_|refine pkT d1 ?_|refine qaa d1 ?_|refine qag d2 ?_|refine qaf d2 ?_|refine pkT d2 ?_|refine qaa d2 ?_|refine qag d3 ?_|refine qaf d3 ?_|refine pkT d3 ?_|refine qaa d3 ?_|refine qal d3 ?_|refine qam d3 ?_|refine pkF d3 ?_|refine qab d3 ?_|refine qag d4 ?_|refine qaf d4 ?_|refine pkT d4 ?_|refine qaa d4 ?_|refine qad hS (by kernel_rfl) ?_);conv => whnf)
  exact ⟨j + 1,hj2,by omega,kle rfl,(by refine ⟨rfl,rfl,rfl,rfl,rfl,rfl,2,rfl,?_,?_⟩ <;> repeat' (first|exact trivial|exact rfl|exact wkr rfl|exact wko rfl|exact Nat.zero_le _|exact ⟨_,rfl,WkV.int hj1⟩|exact ⟨_,rfl,WkV.eq (congrArg (fun z => AV.lst z (N.length + 1 + j + 1) (.ch 1)) (qvf N.length N H hj2))⟩|exact qai lH|exact qbg (qb4 _ _ _) (by decide)|exact kle rfl|exact bdq|exact mxI rfl|exact mxS rfl|apply And.intro))⟩
 ·refine qab (qbe (show ¬ j < (zl H).length by rw [qbs];exact hj2)) ?_
  conv => whnf
  refine .inl ?_
  conv => whnf
  have hjE:j = H.length :=by omega
  have eR2:AV.lst (rwA N.length N (H.take j)) (N.length + 1 + j) (.ch 1) = .lst (rwA N.length N H) (N.length + 1 + H.length) (.ch 1) :=by rw [hjE,List.take_length]
  have eN2:Int.ofNat (N.length + 1 + j) = Int.ofNat (N.length + 1 + H.length) :=by rw [hjE]
  refine qax hE hS (A :=Nat) [] (fun i => [(45,.lst (rwA N.length N H) (N.length + 1 + H.length) (.ch 1)),(46,nv (N.length + 1 + H.length)),(8,.str (ouB (lnsB N H) i)),(9,nv (ckN (lnsB N H) i)),(47,nv i)]) (fun _ => []) (fun _ => []) (fun i => i ≤ N.length + 1 + H.length) (fun i => N.length + 1 + H.length - i) 0 (kle rfl) rfl (by refine ⟨rfl,rfl,rfl,rfl,rfl,rfl,2,rfl,?_,?_⟩ <;> repeat' (first|exact trivial|exact rfl|exact wkr rfl|exact wko rfl|exact Nat.zero_le _|exact ⟨_,rfl,WkV.eq eR2⟩|exact ⟨_,rfl,WkV.int eN2⟩|exact qai lH|exact qbg (qb4 _ _ _) (by decide)|exact kle rfl|exact bdq|exact mxI rfl|exact mxS rfl|apply And.intro)) (Nat.zero_le _) ?_
  intro i hi K hK
  obtain rfl:K = 2 :=hK
  conv => whnf
  by_cases hi2:i < N.length + 1 + H.length
  ·have hi1:IntKind.i64.wrap (Int.ofNat i + 1) = Int.ofNat (i + 1) :=qaz (m :=i + 1) (by omega)
   have hs :=@qff N H i
   refine Or.elim (qgz h hN hi2) (fun hr => ?_) fun hr => Or.elim hr (fun hr => Exists.elim hr fun x hr => ?_) fun hr => Exists.elim hr fun x hr => ?_
   all_goals
    have gr :=hr.1
    have pl :=hr.2
    have hw :=@qf3 N H i (by omega)
    repeat ((first|refine qak (nthP gr) ?_|refine qag (qae hi2) ?_|refine qaf (qae hi2) ?_|refine pkT (qae hi2) ?_|refine qaa (qae hi2) ?_|refine qal (qae hi2) ?_|refine qam (qae hi2) ?_|refine pkF (qae hi2) ?_|refine qab (qae hi2) ?_|refine qag (qaj hi2) ?_|refine qaf (qaj hi2) ?_|refine pkT (qaj hi2) ?_|refine qaa (qaj hi2) ?_|refine qac hC (pl) ?_|refine qad hS (by kernel_rfl) ?_);conv => whnf)
    refine qax hE hS (A :=Nat) [45,46,8,10,12,47,55] (fun k => [(9,nv (ckN (lnsB N H) i + ckL (gB (lnsB N H) i) i k)),(56,nv k)]) (fun _ => []) (fun _ => []) (fun k => k ≤ (gB (lnsB N H) i).length) (fun k => (gB (lnsB N H) i).length - k) 0 (kle rfl) rfl (by refine ⟨rfl,rfl,rfl,rfl,rfl,rfl,2,rfl,?_,?_⟩ <;> repeat' (first|exact trivial|exact rfl|exact wkr rfl|exact wko rfl|exact Nat.zero_le _|exact qai lH|exact qbg (qb4 _ _ _) (by decide)|exact kle rfl|exact bdq|exact mxI rfl|exact mxS rfl|apply And.intro)) (Nat.zero_le _) ?_
    intro k hk K hK
    obtain rfl:K = 2 :=hK
    conv => whnf
    by_cases hk2:k < (gB (lnsB N H) i).length
    ·have hk1:IntKind.i64.wrap (Int.ofNat k + 1) = Int.ofNat (k + 1) :=qaz (m :=k + 1) (by omega)
     have hc :=qf4 (s :=gB (lnsB N H) i) (i :=i) (k :=k) (by omega) (by omega)
     have hb:((gB (lnsB N H) i).getD k 0).toNat ≤ 256 :=Nat.le_of_lt (UInt8.toNat_lt _)
     have ew:_ = Int.ofNat (ckN (lnsB N H) i + ckL (gB (lnsB N H) i) i (k + 1)) :=(qe1 (c :=ckN (lnsB N H) i + ckL (gB (lnsB N H) i) i k) (by omega) hb (show k ≤ 16 by omega) (show i < 1000 by omega)).trans (by rw [ckL,Nat.add_assoc])
     repeat ((first|refine qak (qco hk2) ?_|refine qag (qae hk2) ?_|refine qaf (qae hk2) ?_|refine pkT (qae hk2) ?_|refine qaa (qae hk2) ?_|refine qal (qae hk2) ?_|refine qam (qae hk2) ?_|refine pkF (qae hk2) ?_|refine qab (qae hk2) ?_|refine qag (qaj hk2) ?_|refine qaf (qaj hk2) ?_|refine pkT (qaj hk2) ?_|refine qaa (qaj hk2) ?_|refine qad hS (by kernel_rfl) ?_);conv => whnf)
     exact ⟨k + 1,hk2,by omega,Nat.le_refl _,(by refine ⟨rfl,rfl,rfl,rfl,rfl,rfl,2,rfl,?_,?_⟩ <;> repeat' (first|exact trivial|exact rfl|exact wkr rfl|exact wko rfl|exact Nat.zero_le _|exact ⟨_,rfl,WkV.int hk1⟩|exact ⟨_,rfl,WkV.int ew⟩|exact qai lH|exact qbg (qb4 _ _ _) (by decide)|exact kle rfl|exact bdq|exact mxI rfl|exact mxS rfl|apply And.intro))⟩
    ·refine qab (qbe hk2) ?_
     conv => whnf
     refine .inl ?_
     conv => whnf
     have hkE:k = (gB (lnsB N H) i).length :=by omega
     have o1 :=@qb9 N H i
     have o2 :=qa8 hs (Nat.le_refl ([10]:List UInt8).length)
     have o3 :=qa8 o1 o2
     have o4:(ouB (lnsB N H) i ++ (gB (lnsB N H) i ++ [10])).length ≤ 1000000 :=by simp only [List.length_cons,List.length_nil] at o3;omega
     repeat ((first|refine qag (stOk (mil o2 rfl)) ?_|refine qaf (stOk (mil o2 rfl)) ?_|refine pkT (stOk (mil o2 rfl)) ?_|refine qaa (stOk (mil o2 rfl)) ?_|refine qal (stOk (mil o2 rfl)) ?_|refine qam (stOk (mil o2 rfl)) ?_|refine pkF (stOk (mil o2 rfl)) ?_|refine qab (stOk (mil o2 rfl)) ?_|refine qag (stOk o4) ?_|refine qaf (stOk o4) ?_|refine pkT (stOk o4) ?_|refine qaa (stOk o4) ?_|refine qal (stOk o4) ?_|refine qam (stOk o4) ?_|refine pkF (stOk o4) ?_|refine qab (stOk o4) ?_|refine qad hS (by kernel_rfl) ?_);conv => whnf)
     exact ⟨i + 1,hi2,by omega,Nat.le_refl _,(by refine ⟨rfl,rfl,rfl,rfl,rfl,rfl,2,rfl,?_,?_⟩ <;> repeat' (first|exact trivial|exact rfl|exact wkr rfl|exact wko rfl|exact Nat.zero_le _|exact ⟨_,rfl,WkV.int hi1⟩|exact ⟨_,rfl,WkV.int (show Int.ofNat (ckN (lnsB N H) i + ckL (gB (lnsB N H) i) i k) = Int.ofNat (ckN (lnsB N H) (i + 1)) by rw [ckN,hkE])⟩|exact qai lH|exact qbg (qb4 _ _ _) (by decide)|exact kle rfl|exact bdq|exact mxI rfl|exact mxS rfl|apply And.intro))⟩
  ·have hiE2:i = (lnsB N H).length :=by rw [qcn];omega
   have t :=qgn (ckN (lnsB N H) i)
   have hm :=Nat.mod_lt (ckN (lnsB N H) i) (show 0 < 127 by decide)
   have p1 :=qdj t.1 (by omega)
   have p2 :=qdj t.2.1 (by omega)
   have p3 :=qdj t.2.2 (by omega)
   have o1 :=@qb9 N H i
   have o2:(ouB (lnsB N H) i ++ [101,110,100,32]).length ≤ 10000 :=by rw [List.length_append];show _ + 4 ≤ _;omega
   have o3 :=qa8 o2 (qbi (ckN (lnsB N H) i % 127 / 100))
   have o4 :=qa8 o3 (qbi (ckN (lnsB N H) i % 127 / 10 % 10))
   have o5 :=qa8 o4 (qbi (ckN (lnsB N H) i % 127 % 10))
   have o6 :=qa8 o5 (Nat.le_refl ([10]:List UInt8).length)
   refine qab (qbe hi2) ?_
   conv => whnf
   refine .inl ?_
   conv => whnf
   repeat ((first|refine qag (stOk (mil o2 rfl)) ?_|refine qaf (stOk (mil o2 rfl)) ?_|refine pkT (stOk (mil o2 rfl)) ?_|refine qaa (stOk (mil o2 rfl)) ?_|refine qal (stOk (mil o2 rfl)) ?_|refine qam (stOk (mil o2 rfl)) ?_|refine pkF (stOk (mil o2 rfl)) ?_|refine qab (stOk (mil o2 rfl)) ?_|refine qag (stOk (mil o3 rfl)) ?_|refine qaf (stOk (mil o3 rfl)) ?_|refine pkT (stOk (mil o3 rfl)) ?_|refine qaa (stOk (mil o3 rfl)) ?_|refine qal (stOk (mil o3 rfl)) ?_|refine qam (stOk (mil o3 rfl)) ?_|refine pkF (stOk (mil o3 rfl)) ?_|refine qab (stOk (mil o3 rfl)) ?_|refine qag (stOk (mil o4 rfl)) ?_|refine qaf (stOk (mil o4 rfl)) ?_|refine pkT (stOk (mil o4 rfl)) ?_|refine qaa (stOk (mil o4 rfl)) ?_|refine qal (stOk (mil o4 rfl)) ?_|refine qam (stOk (mil o4 rfl)) ?_|refine pkF (stOk (mil o4 rfl)) ?_|refine qab (stOk (mil o4 rfl)) ?_|refine qag (stOk (mil o5 rfl)) ?_|refine qaf (stOk (mil o5 rfl)) ?_|refine pkT (stOk (mil o5 rfl)) ?_|refine qaa (stOk (mil o5 rfl)) ?_|refine qal (stOk (mil o5 rfl)) ?_|refine qam (stOk (mil o5 rfl)) ?_|refine pkF (stOk (mil o5 rfl)) ?_|refine qab (stOk (mil o5 rfl)) ?_|refine qag (stOk (mil o6 rfl)) ?_|refine qaf (stOk (mil o6 rfl)) ?_|refine pkT (stOk (mil o6 rfl)) ?_|refine qaa (stOk (mil o6 rfl)) ?_|refine qal (stOk (mil o6 rfl)) ?_|refine qam (stOk (mil o6 rfl)) ?_|refine pkF (stOk (mil o6 rfl)) ?_|refine qab (stOk (mil o6 rfl)) ?_|refine qac hC (p1) ?_|refine qac hC (p2) ?_|refine qac hC (p3) ?_|refine qad hS (by kernel_rfl) ?_);conv => whnf)
   exact ⟨_,rfl,wk_s (by unfold prtB finB;rw [← hiE2])⟩
theorem qw1 {N:List Lk} {H:List Nat} (hN0:N = []) (hH0:H = []):Pure prog 90 [.agg [.nils,.nils]] (.str (prtB N H)) :=by
 have h:okT N H :=by rw [hN0,hH0];exact ⟨(fun _ h => nomatch h),(fun _ h => nomatch h)⟩
 have hN:N.length < 100 :=by rw [hN0];exact kle rfl
 have hH:H.length ≤ 400 :=by rw [hH0];exact Nat.zero_le _
 have eR2:AV.lst (rwA 0 [] []) 1 .full = .lst (rwA N.length N H) (N.length + 1 + H.length) .full :=by rw [hN0,hH0];rfl
 have eN2:Int.ofNat 1 = Int.ofNat (N.length + 1 + H.length) :=by rw [hN0,hH0];rfl
 refine qas hE rfl (by repeat' first|exact trivial|assumption|exact qah _|exact fun _ h => nomatch h|apply And.intro) (by repeat' first|exact trivial|assumption|exact qah _|exact fun _ h => nomatch h|apply And.intro) fun S q pc hS hq hC hE => ?_
 conv => whnf
 refine qan hE hS ?_
 conv => whnf
 repeat ((first|refine qad hS (by kernel_rfl) ?_);conv => whnf)
 refine qan hE hS ?_
 conv => whnf
 repeat ((first|refine qad hS (by kernel_rfl) ?_);conv => whnf)
 refine qax hE hS (A :=Nat) [] (fun i => [(45,.lst (rwA N.length N H) (N.length + 1 + H.length) .full),(46,nv (N.length + 1 + H.length)),(8,.str (ouB (lnsB N H) i)),(9,nv (ckN (lnsB N H) i)),(47,nv i)]) (fun _ => []) (fun _ => []) (fun i => i ≤ N.length + 1 + H.length) (fun i => N.length + 1 + H.length - i) 0 (kle rfl) rfl (by refine ⟨rfl,rfl,rfl,rfl,rfl,rfl,1,rfl,?_,?_⟩ <;> repeat' (first|exact trivial|exact rfl|exact wkr rfl|exact wko rfl|exact Nat.zero_le _|exact ⟨_,rfl,WkV.eq eR2⟩|exact ⟨_,rfl,WkV.int eN2⟩|exact qai (qb4 _ _ _)|exact kle rfl|exact bdq|exact mxI rfl|exact mxS rfl|apply And.intro)) (Nat.zero_le _) ?_
 intro i hi K hK
 obtain rfl:K = 1 :=hK
 conv => whnf
 by_cases hi2:i < N.length + 1 + H.length
 ·have hi1:IntKind.i64.wrap (Int.ofNat i + 1) = Int.ofNat (i + 1) :=qaz (m :=i + 1) (by omega)
  have hs :=@qff N H i
  refine Or.elim (qgz h hN hi2) (fun hr => ?_) fun hr => Or.elim hr (fun hr => Exists.elim hr fun x hr => ?_) fun hr => Exists.elim hr fun x hr => ?_
  all_goals
   have gr :=hr.1
   have pl :=hr.2
   have hw :=@qf3 N H i (by omega)
   repeat ((first|refine qak (nthP gr) ?_|refine qag (qae hi2) ?_|refine qaf (qae hi2) ?_|refine pkT (qae hi2) ?_|refine qaa (qae hi2) ?_|refine qal (qae hi2) ?_|refine qam (qae hi2) ?_|refine pkF (qae hi2) ?_|refine qab (qae hi2) ?_|refine qag (qaj hi2) ?_|refine qaf (qaj hi2) ?_|refine pkT (qaj hi2) ?_|refine qaa (qaj hi2) ?_|refine qac hC (pl) ?_|refine qad hS (by kernel_rfl) ?_);conv => whnf)
   refine qax hE hS (A :=Nat) [45,46,8,10,12,47,55] (fun k => [(9,nv (ckN (lnsB N H) i + ckL (gB (lnsB N H) i) i k)),(56,nv k)]) (fun _ => []) (fun _ => []) (fun k => k ≤ (gB (lnsB N H) i).length) (fun k => (gB (lnsB N H) i).length - k) 0 (kle rfl) rfl (by refine ⟨rfl,rfl,rfl,rfl,rfl,rfl,1,rfl,?_,?_⟩ <;> repeat' (first|exact trivial|exact rfl|exact wkr rfl|exact wko rfl|exact Nat.zero_le _|exact qai (qb4 _ _ _)|exact kle rfl|exact bdq|exact mxI rfl|exact mxS rfl|apply And.intro)) (Nat.zero_le _) ?_
   intro k hk K hK
   obtain rfl:K = 1 :=hK
   conv => whnf
   by_cases hk2:k < (gB (lnsB N H) i).length
   ·have hk1:IntKind.i64.wrap (Int.ofNat k + 1) = Int.ofNat (k + 1) :=qaz (m :=k + 1) (by omega)
    have hc :=qf4 (s :=gB (lnsB N H) i) (i :=i) (k :=k) (by omega) (by omega)
    have hb:((gB (lnsB N H) i).getD k 0).toNat ≤ 256 :=Nat.le_of_lt (UInt8.toNat_lt _)
    have ew:_ = Int.ofNat (ckN (lnsB N H) i + ckL (gB (lnsB N H) i) i (k + 1)) :=(qe1 (c :=ckN (lnsB N H) i + ckL (gB (lnsB N H) i) i k) (by omega) hb (show k ≤ 16 by omega) (show i < 1000 by omega)).trans (by rw [ckL,Nat.add_assoc])
    repeat ((first|refine qak (qco hk2) ?_|refine qag (qae hk2) ?_|refine qaf (qae hk2) ?_|refine pkT (qae hk2) ?_|refine qaa (qae hk2) ?_|refine qal (qae hk2) ?_|refine qam (qae hk2) ?_|refine pkF (qae hk2) ?_|refine qab (qae hk2) ?_|refine qag (qaj hk2) ?_|refine qaf (qaj hk2) ?_|refine pkT (qaj hk2) ?_|refine qaa (qaj hk2) ?_|refine qad hS (by kernel_rfl) ?_);conv => whnf)
    exact ⟨k + 1,hk2,by omega,Nat.le_refl _,(by refine ⟨rfl,rfl,rfl,rfl,rfl,rfl,1,rfl,?_,?_⟩ <;> repeat' (first|exact trivial|exact rfl|exact wkr rfl|exact wko rfl|exact Nat.zero_le _|exact ⟨_,rfl,WkV.int hk1⟩|exact ⟨_,rfl,WkV.int ew⟩|exact qai (qb4 _ _ _)|exact kle rfl|exact bdq|exact mxI rfl|exact mxS rfl|apply And.intro))⟩
   ·refine qab (qbe hk2) ?_
    conv => whnf
    refine .inl ?_
    conv => whnf
    have hkE:k = (gB (lnsB N H) i).length :=by omega
    have o1 :=@qb9 N H i
    have o2 :=qa8 hs (Nat.le_refl ([10]:List UInt8).length)
    have o3 :=qa8 o1 o2
    have o4:(ouB (lnsB N H) i ++ (gB (lnsB N H) i ++ [10])).length ≤ 1000000 :=by simp only [List.length_cons,List.length_nil] at o3;omega
    repeat ((first|refine qag (stOk (mil o2 rfl)) ?_|refine qaf (stOk (mil o2 rfl)) ?_|refine pkT (stOk (mil o2 rfl)) ?_|refine qaa (stOk (mil o2 rfl)) ?_|refine qal (stOk (mil o2 rfl)) ?_|refine qam (stOk (mil o2 rfl)) ?_|refine pkF (stOk (mil o2 rfl)) ?_|refine qab (stOk (mil o2 rfl)) ?_|refine qag (stOk o4) ?_|refine qaf (stOk o4) ?_|refine pkT (stOk o4) ?_|refine qaa (stOk o4) ?_|refine qal (stOk o4) ?_|refine qam (stOk o4) ?_|refine pkF (stOk o4) ?_|refine qab (stOk o4) ?_|refine qad hS (by kernel_rfl) ?_);conv => whnf)
    exact ⟨i + 1,hi2,by omega,Nat.le_refl _,(by refine ⟨rfl,rfl,rfl,rfl,rfl,rfl,1,rfl,?_,?_⟩ <;> repeat' (first|exact trivial|exact rfl|exact wkr rfl|exact wko rfl|exact Nat.zero_le _|exact ⟨_,rfl,WkV.int hi1⟩|exact ⟨_,rfl,WkV.int (show Int.ofNat (ckN (lnsB N H) i + ckL (gB (lnsB N H) i) i k) = Int.ofNat (ckN (lnsB N H) (i + 1)) by rw [ckN,hkE])⟩|exact qai (qb4 _ _ _)|exact kle rfl|exact bdq|exact mxI rfl|exact mxS rfl|apply And.intro))⟩
 ·have hiE2:i = (lnsB N H).length :=by rw [qcn];omega
  have t :=qgn (ckN (lnsB N H) i)
  have hm :=Nat.mod_lt (ckN (lnsB N H) i) (show 0 < 127 by decide)
  have p1 :=qdj t.1 (by omega)
  have p2 :=qdj t.2.1 (by omega)
  have p3 :=qdj t.2.2 (by omega)
  have o1 :=@qb9 N H i
  have o2:(ouB (lnsB N H) i ++ [101,110,100,32]).length ≤ 10000 :=by rw [List.length_append];show _ + 4 ≤ _;omega
  have o3 :=qa8 o2 (qbi (ckN (lnsB N H) i % 127 / 100))
  have o4 :=qa8 o3 (qbi (ckN (lnsB N H) i % 127 / 10 % 10))
  have o5 :=qa8 o4 (qbi (ckN (lnsB N H) i % 127 % 10))
  have o6 :=qa8 o5 (Nat.le_refl ([10]:List UInt8).length)
  refine qab (qbe hi2) ?_
  conv => whnf
  refine .inl ?_
  conv => whnf
  repeat ((first|refine qag (stOk (mil o2 rfl)) ?_|refine qaf (stOk (mil o2 rfl)) ?_|refine pkT (stOk (mil o2 rfl)) ?_|refine qaa (stOk (mil o2 rfl)) ?_|refine qal (stOk (mil o2 rfl)) ?_|refine qam (stOk (mil o2 rfl)) ?_|refine pkF (stOk (mil o2 rfl)) ?_|refine qab (stOk (mil o2 rfl)) ?_|refine qag (stOk (mil o3 rfl)) ?_|refine qaf (stOk (mil o3 rfl)) ?_|refine pkT (stOk (mil o3 rfl)) ?_|refine qaa (stOk (mil o3 rfl)) ?_|refine qal (stOk (mil o3 rfl)) ?_|refine qam (stOk (mil o3 rfl)) ?_|refine pkF (stOk (mil o3 rfl)) ?_|refine qab (stOk (mil o3 rfl)) ?_|refine qag (stOk (mil o4 rfl)) ?_|refine qaf (stOk (mil o4 rfl)) ?_|refine pkT (stOk (mil o4 rfl)) ?_|refine qaa (stOk (mil o4 rfl)) ?_|refine qal (stOk (mil o4 rfl)) ?_|refine qam (stOk (mil o4 rfl)) ?_|refine pkF (stOk (mil o4 rfl)) ?_|refine qab (stOk (mil o4 rfl)) ?_|refine qag (stOk (mil o5 rfl)) ?_|refine qaf (stOk (mil o5 rfl)) ?_|refine pkT (stOk (mil o5 rfl)) ?_|refine qaa (stOk (mil o5 rfl)) ?_|refine qal (stOk (mil o5 rfl)) ?_|refine qam (stOk (mil o5 rfl)) ?_|refine pkF (stOk (mil o5 rfl)) ?_|refine qab (stOk (mil o5 rfl)) ?_|refine qag (stOk (mil o6 rfl)) ?_|refine qaf (stOk (mil o6 rfl)) ?_|refine pkT (stOk (mil o6 rfl)) ?_|refine qaa (stOk (mil o6 rfl)) ?_|refine qal (stOk (mil o6 rfl)) ?_|refine qam (stOk (mil o6 rfl)) ?_|refine pkF (stOk (mil o6 rfl)) ?_|refine qab (stOk (mil o6 rfl)) ?_|refine qac hC (p1) ?_|refine qac hC (p2) ?_|refine qac hC (p3) ?_|refine qad hS (by kernel_rfl) ?_);conv => whnf)
  exact ⟨_,rfl,wk_s (by unfold prtB finB;rw [← hiE2])⟩
theorem qkn {N:List Lk} {H:List Nat} {x y:AV} (h:okT N H) (hN:N.length < 100) (hH:H.length ≤ 400) (hx:x = .nils ∧ N = [] ∨ x = nkA N ∧ N ≠ []) (hy:y = .nils ∧ H = [] ∨ y = nl (zl H) ∧ H ≠ []):Pure prog 90 [.agg [x,y]] (.str (prtB N H)) :=by
 rcases hx with ⟨rfl,e1⟩ | ⟨rfl,e1⟩ <;> rcases hy with ⟨rfl,e2⟩ | ⟨rfl,e2⟩
 ·exact qw1 e1 e2
 ·exact qw2 h e1 hH (List.length_pos_iff.2 e2)
 ·exact qw3 h hN e2 (List.length_pos_iff.2 e1)
 ·exact qw4 h hN hH (List.length_pos_iff.2 e1)
end
end Go.Abs.Seat
namespace Go.Abs.Seat
noncomputable section
open Go Go.Abs Go.Proofs.Tryz
set_option maxRecDepth 100000
set_option maxHeartbeats 40000000
attribute [local irreducible] IntKind.wrap pEq Utf8.decode
def noP (s:List UInt8):List (AV × Bool) :=[(.iface 145 (.agg [.str s]),false)]
theorem qdq (s:List UInt8):Pure prog 144 [.bool true,.str s] (.tup []) :=by
 refine qas hE rfl (by repeat' first|exact trivial|assumption|exact qah _|exact fun _ h => nomatch h|apply And.intro) (by repeat' first|exact trivial|assumption|exact qah _|exact fun _ h => nomatch h|apply And.intro) fun S q pc hS hq hC hE => ?_
 conv => whnf
 exact ⟨_,rfl,Wk.refl _⟩
theorem qgo (s:List UInt8):qci prog 144 [.bool false,.str s] (noP s) :=by
 refine qbj hE rfl (by repeat' first|exact trivial|assumption|exact qah _|exact fun _ h => nomatch h|apply And.intro) (by simp [noP,Live,Lives]) fun S q pc hS hq hC hE => ?_
 conv => whnf
 rfl
theorem qdw {t:Bool} (h:t = true) (s:List UInt8):Pure prog 144 [.bool t,.str s] (.tup []) :=by subst h;exact qdq s
theorem qd9 {t:Bool} (h:t = false) (s:List UInt8):qci prog 144 [.bool t,.str s] (noP s) :=by subst h;exact qgo s
theorem nx_f {p n:Nat} {a b:Plan} (h:decide (p < n) = false):(match decide (p < n) with | true => a | false => b) = b :=by rw [h]
theorem nx_t {p n:Nat} {a b:Plan} (h:decide (p < n) = true):(match decide (p < n) with | true => a | false => b) = a :=by rw [h]
theorem qc7 {l:List UInt8} {p:Nat} (_h:p < l.length) (hb:(l.getD p 0).toNat < 128):Utf8.decode ⟨l.toArray⟩ p = ((l.getD p 0).toNat,1) :=by
 have e:(ByteArray.mk l.toArray).get! (p + 0) = l.getD p 0 :=by
  simp [ByteArray.get!,List.getD]
  rfl
 unfold Utf8.decode
 simp only [e,if_pos hb]
theorem qr7 {l:List UInt8} {p:Nat} (_h:p < l.length) (hb:¬ (l.getD p 0).toNat < 128):128 ≤ (Utf8.decode ⟨l.toArray⟩ p).1 :=by
 have e:(ByteArray.mk l.toArray).get! (p + 0) = l.getD p 0 :=by
  simp [ByteArray.get!,List.getD]
  rfl
 unfold Utf8.decode
 simp only [e,if_neg hb]
 have r:128 ≤ Utf8.runeError :=by decide
 split
 ·split
  ·simpa using ‹_›
  ·exact r
 ·split
  ·split
   ·rename_i h1
    simp only [Bool.and_eq_true,decide_eq_true_eq] at h1
    exact Nat.le_trans (by decide) h1.1
   ·exact r
  ·split
   ·split
    ·rename_i h1
     simp only [Bool.and_eq_true,decide_eq_true_eq] at h1
     exact Nat.le_trans (by decide) h1.1
    ·exact r
   ·exact r
theorem num0:qci prog 159 [.str []] (noP []) :=by
 refine qbj hE rfl (by repeat' first|exact trivial|assumption|exact qah _|exact fun _ h => nomatch h|apply And.intro) (by simp [noP,Live,Lives]) fun S q pc hS hq hC hE => ?_
 conv => whnf
 refine qan hE hS ?_
 conv => whnf
 repeat ((first|refine qad hS (by kernel_rfl) ?_);conv => whnf)
 refine qau hC ?_
 conv => whnf
 refine qa2 hS (qgo []) ?_
 conv => whnf
theorem qla {l:List UInt8} {p:Nat} (h:p < l.length):(48 ≤ (l.getD p 0).toNat ∧ (l.getD p 0).toNat ≤ 57 ∧ Utf8.decode ⟨l.toArray⟩ p = ((l.getD p 0).toNat,1)) ∨ ¬ (48 ≤ (l.getD p 0).toNat ∧ (l.getD p 0).toNat ≤ 57) ∧ ¬ (48 ≤ (Utf8.decode ⟨l.toArray⟩ p).1 ∧ (Utf8.decode ⟨l.toArray⟩ p).1 ≤ 57) :=by
 by_cases hb:(l.getD p 0).toNat < 128
 ·have e :=qc7 h hb
  by_cases c:48 ≤ (l.getD p 0).toNat ∧ (l.getD p 0).toNat ≤ 57
  ·exact .inl ⟨c.1,c.2,e⟩
  ·exact .inr ⟨c,by rw [e];exact c⟩
 ·have e :=qr7 h hb
  exact .inr ⟨fun z => by omega,fun z => by omega⟩
theorem numX {b:UInt8} {r:List UInt8} (h:¬ (48 ≤ b.toNat ∧ b.toNat ≤ 57)):qci prog 159 [.str (b :: r)] (noP (b :: r)) :=by
 have hd:¬ (48 ≤ (Utf8.decode ⟨(b :: r).toArray⟩ 0).1 ∧ (Utf8.decode ⟨(b :: r).toArray⟩ 0).1 ≤ 57) :=by
  rcases qla (l :=b :: r) (p :=0) (Nat.succ_pos _) with k | k
  ·exact absurd ⟨k.1,k.2.1⟩ h
  ·exact k.2
 have lS:Lives noL [AV.str (b :: r)] :=⟨trivial,trivial⟩
 by_cases h1:48 ≤ (Utf8.decode ⟨(b :: r).toArray⟩ 0).1
 ·have t1:decide (Int.ofNat (Utf8.decode ⟨(b :: r).toArray⟩ 0).1 ≥ 48) = true :=decide_eq_true (by simp only [Int.ofNat_eq_natCast];omega)
  have t2:decide (Int.ofNat (Utf8.decode ⟨(b :: r).toArray⟩ 0).1 ≤ 57) = false :=decide_eq_false (by simp only [Int.ofNat_eq_natCast];omega)
  refine qbj hE rfl (by repeat' first|exact trivial|assumption|exact qah _|exact fun _ h => nomatch h|apply And.intro) (by simp [noP,Live,Lives]) fun S q pc hS hq hC hE => ?_
  conv => whnf
  refine qan hE hS ?_
  conv => whnf
  repeat ((first|refine qag t1 ?_|refine qaf t1 ?_|refine pkT t1 ?_|refine qaa t1 ?_|refine qag (qaq t1) ?_|refine qaf (qaq t1) ?_|refine pkT (qaq t1) ?_|refine qaa (qaq t1) ?_|refine qal t2 ?_|refine qam t2 ?_|refine pkF t2 ?_|refine qab t2 ?_|refine qal (qao t2) ?_|refine qam (qao t2) ?_|refine pkF (qao t2) ?_|refine qab (qao t2) ?_|refine qad hS (by kernel_rfl) ?_);conv => whnf)
  refine qau hC ?_
  conv => whnf
  refine qa2 hS (qgo _) ?_
  conv => whnf
 ·have t1:decide (Int.ofNat (Utf8.decode ⟨(b :: r).toArray⟩ 0).1 ≥ 48) = false :=decide_eq_false (by simp only [Int.ofNat_eq_natCast];omega)
  refine qbj hE rfl (by repeat' first|exact trivial|assumption|exact qah _|exact fun _ h => nomatch h|apply And.intro) (by simp [noP,Live,Lives]) fun S q pc hS hq hC hE => ?_
  conv => whnf
  refine qan hE hS ?_
  conv => whnf
  repeat ((first|refine qal t1 ?_|refine qam t1 ?_|refine pkF t1 ?_|refine qab t1 ?_|refine qal (qao t1) ?_|refine qam (qao t1) ?_|refine pkF (qao t1) ?_|refine qab (qao t1) ?_|refine qad hS (by kernel_rfl) ?_);conv => whnf)
  refine qau hC ?_
  conv => whnf
  refine qa2 hS (qgo _) ?_
  conv => whnf
theorem dgv:∀ x,x < 58 → 48 ≤ x → IntKind.i64.wrap (IntKind.i32.wrap (Int.ofNat x - 48)) = Int.ofNat (x - 48) :=by decide +kernel
theorem qwm {b:UInt8} (h:48 ≤ b.toNat):dgt (b.toNat - 48) = b :=by
 unfold dgt
 rw [show 48 + (b.toNat - 48) = b.toNat by omega]
 simp
theorem numL {b:UInt8} {r:List UInt8} (h1:48 ≤ b.toNat) (h2:b.toNat ≤ 57) (hl:2 ≤ r.length) (hl2:r.length ≤ 1000):qci prog 159 [.str (b :: r)] (noP (b :: r)) :=by
 have hd:Utf8.decode ⟨(b :: r).toArray⟩ 0 = (b.toNat,1) :=qc7 (l :=b :: r) (p :=0) (Nat.succ_pos _) (show b.toNat < 128 by omega)
 have t1:decide (Int.ofNat (Utf8.decode ⟨(b :: r).toArray⟩ 0).1 ≥ 48) = true :=decide_eq_true (by rw [hd];simp only [Int.ofNat_eq_natCast];omega)
 have t2:decide (Int.ofNat (Utf8.decode ⟨(b :: r).toArray⟩ 0).1 ≤ 57) = true :=decide_eq_true (by rw [hd];simp only [Int.ofNat_eq_natCast];omega)
 have t3:decide (((b :: r).length:Int) ≤ 2) = false :=decide_eq_false (by rw [List.length_cons];omega)
 have lS:Lives noL [AV.str (b :: r)] :=⟨trivial,trivial⟩
 refine qbj hE rfl (by repeat' first|exact trivial|assumption|exact qah _|exact fun _ h => nomatch h|apply And.intro) (by simp [noP,Live,Lives]) fun S q pc hS hq hC hE => ?_
 conv => whnf
 refine qan hE hS ?_
 conv => whnf
 repeat ((first|refine qag t1 ?_|refine qaf t1 ?_|refine pkT t1 ?_|refine qaa t1 ?_|refine qag (qaq t1) ?_|refine qaf (qaq t1) ?_|refine pkT (qaq t1) ?_|refine qaa (qaq t1) ?_|refine qag t2 ?_|refine qaf t2 ?_|refine pkT t2 ?_|refine qaa t2 ?_|refine qag (qaq t2) ?_|refine qaf (qaq t2) ?_|refine pkT (qaq t2) ?_|refine qaa (qaq t2) ?_|refine qal t3 ?_|refine qam t3 ?_|refine pkF t3 ?_|refine qab t3 ?_|refine qal (qao t3) ?_|refine qam (qao t3) ?_|refine pkF (qao t3) ?_|refine qab (qao t3) ?_|refine qad hS (by kernel_rfl) ?_);conv => whnf)
 refine qau hC ?_
 conv => whnf
 refine qa2 hS (qd9 t3 _) ?_
 conv => whnf
theorem num1 {b:UInt8} (h1:48 ≤ b.toNat) (h2:b.toNat ≤ 57):Pure prog 159 [.str [b]] (nv (b.toNat - 48)) ∧ [b] = dec (b.toNat - 48) :=by
 have hd:Utf8.decode ⟨[b].toArray⟩ 0 = (b.toNat,1) :=qc7 (l :=[b]) (p :=0) (Nat.succ_pos _) (show b.toNat < 128 by omega)
 have e1:[b] = dec (b.toNat - 48) :=by rw [dec,if_pos (by omega),qwm h1]
 refine ⟨?_,e1⟩
 have t1:decide (Int.ofNat (Utf8.decode ⟨[b].toArray⟩ 0).1 ≥ 48) = true :=decide_eq_true (by rw [hd];simp only [Int.ofNat_eq_natCast];omega)
 have t2:decide (Int.ofNat (Utf8.decode ⟨[b].toArray⟩ 0).1 ≤ 57) = true :=decide_eq_true (by rw [hd];simp only [Int.ofNat_eq_natCast];omega)
 have t4:decide (0 + (Utf8.decode ⟨[b].toArray⟩ 0).2 < [b].length) = false :=decide_eq_false (by rw [hd];show ¬ 0 + 1 < 1;omega)
 have v0:IntKind.i64.wrap (10 * 0) = 0 :=qel (by decide) (by decide)
 have hV:IntKind.i64.wrap (IntKind.i64.wrap (10 * 0) + IntKind.i64.wrap (IntKind.i32.wrap (Int.ofNat (Utf8.decode ⟨[b].toArray⟩ 0).1 - 48))) = Int.ofNat (b.toNat - 48) :=by
  rw [hd,dgv _ (show b.toNat < 58 by omega) h1,v0,Int.zero_add]
  exact qaz (m :=b.toNat - 48) (by omega)
 have p1 :=qdj hV (by omega)
 have e2:(dec (b.toNat - 48) == [b]) = true :=beq_iff_eq.2 e1.symm
 refine qas hE rfl (by repeat' first|exact trivial|assumption|exact qah _|exact fun _ h => nomatch h|apply And.intro) (by repeat' first|exact trivial|assumption|exact qah _|exact fun _ h => nomatch h|apply And.intro) fun S q pc hS hq hC hE => ?_
 conv => whnf
 refine qan hE hS ?_
 conv => whnf
 repeat ((first|refine qag t1 ?_|refine qaf t1 ?_|refine pkT t1 ?_|refine qaa t1 ?_|refine qag (qaq t1) ?_|refine qaf (qaq t1) ?_|refine pkT (qaq t1) ?_|refine qaa (qaq t1) ?_|refine qag t2 ?_|refine qaf t2 ?_|refine pkT t2 ?_|refine qaa t2 ?_|refine qag (qaq t2) ?_|refine qaf (qaq t2) ?_|refine pkT (qaq t2) ?_|refine qaa (qaq t2) ?_|refine qac hC (qdq [b]) ?_|refine qad hS (by kernel_rfl) ?_);conv => whnf)
 refine qan hE hS ?_
 conv => whnf
 repeat ((first|refine qak (nx_f t4) ?_|refine qac hC (qdw e2 [b]) ?_|refine qac hC (p1) ?_|refine qad hS (by kernel_rfl) ?_);conv => whnf)
 exact ⟨_,rfl,wk_i hV⟩
theorem num2 {b d:UInt8} (h1:48 ≤ b.toNat) (h2:b.toNat ≤ 57) (h3:48 ≤ d.toNat) (h4:d.toNat ≤ 57) (h0:b.toNat ≠ 48):Pure prog 159 [.str [b,d]] (nv (10 * (b.toNat - 48) + (d.toNat - 48))) ∧ [b,d] = dec (10 * (b.toNat - 48) + (d.toNat - 48)) :=by
 have e1:[b,d] = dec (10 * (b.toNat - 48) + (d.toNat - 48)) :=by
  rw [dec,if_neg (by omega),if_pos (by omega),show (10 * (b.toNat - 48) + (d.toNat - 48)) / 10 = b.toNat - 48 by omega,show (10 * (b.toNat - 48) + (d.toNat - 48)) % 10 = d.toNat - 48 by omega,qwm h1,qwm h3]
 refine ⟨?_,e1⟩
 have hd:Utf8.decode ⟨[b,d].toArray⟩ 0 = (b.toNat,1) :=qc7 (l :=[b,d]) (p :=0) (Nat.succ_pos _) (show b.toNat < 128 by omega)
 have t1:decide (Int.ofNat (Utf8.decode ⟨[b,d].toArray⟩ 0).1 ≥ 48) = true :=decide_eq_true (by rw [hd];simp only [Int.ofNat_eq_natCast];omega)
 have t2:decide (Int.ofNat (Utf8.decode ⟨[b,d].toArray⟩ 0).1 ≤ 57) = true :=decide_eq_true (by rw [hd];simp only [Int.ofNat_eq_natCast];omega)
 have t4:decide (0 + (Utf8.decode ⟨[b,d].toArray⟩ 0).2 < [b,d].length) = true :=decide_eq_true (by rw [hd];show 0 + 1 < 2;omega)
 have v0:IntKind.i64.wrap (10 * 0) = 0 :=qel (by decide) (by decide)
 have hd2:Utf8.decode ⟨[b,d].toArray⟩ (0 + (Utf8.decode ⟨[b,d].toArray⟩ 0).2) = (d.toNat,1) :=by rw [hd];exact qc7 (l :=[b,d]) (p :=1) (Nat.lt_succ_self 1) (show d.toNat < 128 by omega)
 have t5:decide (Int.ofNat (Utf8.decode ⟨[b,d].toArray⟩ (0 + (Utf8.decode ⟨[b,d].toArray⟩ 0).2)).1 ≥ 48) = true :=decide_eq_true (by rw [hd2];simp only [Int.ofNat_eq_natCast];omega)
 have t6:decide (Int.ofNat (Utf8.decode ⟨[b,d].toArray⟩ (0 + (Utf8.decode ⟨[b,d].toArray⟩ 0).2)).1 ≤ 57) = true :=decide_eq_true (by rw [hd2];simp only [Int.ofNat_eq_natCast];omega)
 have t7:decide (0 + (Utf8.decode ⟨[b,d].toArray⟩ 0).2 + (Utf8.decode ⟨[b,d].toArray⟩ (0 + (Utf8.decode ⟨[b,d].toArray⟩ 0).2)).2 < [b,d].length) = false :=decide_eq_false (by rw [hd2,hd];show ¬ 0 + 1 + 1 < 2;omega)
 have hV:IntKind.i64.wrap (IntKind.i64.wrap (10 * IntKind.i64.wrap (IntKind.i64.wrap (10 * 0) + IntKind.i64.wrap (IntKind.i32.wrap (Int.ofNat (Utf8.decode ⟨[b,d].toArray⟩ 0).1 - 48)))) + IntKind.i64.wrap (IntKind.i32.wrap (Int.ofNat (Utf8.decode ⟨[b,d].toArray⟩ (0 + (Utf8.decode ⟨[b,d].toArray⟩ 0).2)).1 - 48))) = Int.ofNat (10 * (b.toNat - 48) + (d.toNat - 48)) :=by
  rw [hd2,hd,dgv _ (show b.toNat < 58 by omega) h1,dgv _ (show d.toNat < 58 by omega) h3,v0,Int.zero_add]
  rw [show IntKind.i64.wrap (Int.ofNat (b.toNat - 48)) = Int.ofNat (b.toNat - 48) from qaz (m :=b.toNat - 48) (by omega)]
  rw [show IntKind.i64.wrap (10 * Int.ofNat (b.toNat - 48)) = Int.ofNat (10 * (b.toNat - 48)) from qaz (m :=10 * (b.toNat - 48)) (by omega)]
  exact qaz (m :=10 * (b.toNat - 48) + (d.toNat - 48)) (by omega)
 have p1 :=qdj hV (by omega)
 have e2:(dec (10 * (b.toNat - 48) + (d.toNat - 48)) == [b,d]) = true :=beq_iff_eq.2 e1.symm
 refine qas hE rfl (by repeat' first|exact trivial|assumption|exact qah _|exact fun _ h => nomatch h|apply And.intro) (by repeat' first|exact trivial|assumption|exact qah _|exact fun _ h => nomatch h|apply And.intro) fun S q pc hS hq hC hE => ?_
 conv => whnf
 refine qan hE hS ?_
 conv => whnf
 repeat ((first|refine qag t1 ?_|refine qaf t1 ?_|refine pkT t1 ?_|refine qaa t1 ?_|refine qag (qaq t1) ?_|refine qaf (qaq t1) ?_|refine pkT (qaq t1) ?_|refine qaa (qaq t1) ?_|refine qag t2 ?_|refine qaf t2 ?_|refine pkT t2 ?_|refine qaa t2 ?_|refine qag (qaq t2) ?_|refine qaf (qaq t2) ?_|refine pkT (qaq t2) ?_|refine qaa (qaq t2) ?_|refine qac hC (qdq [b,d]) ?_|refine qad hS (by kernel_rfl) ?_);conv => whnf)
 refine qan hE hS ?_
 conv => whnf
 repeat ((first|refine qak (nx_t t4) ?_|refine qag t5 ?_|refine qaf t5 ?_|refine pkT t5 ?_|refine qaa t5 ?_|refine qag (qaq t5) ?_|refine qaf (qaq t5) ?_|refine pkT (qaq t5) ?_|refine qaa (qaq t5) ?_|refine qag t6 ?_|refine qaf t6 ?_|refine pkT t6 ?_|refine qaa t6 ?_|refine qag (qaq t6) ?_|refine qaf (qaq t6) ?_|refine pkT (qaq t6) ?_|refine qaa (qaq t6) ?_|refine qac hC (qdq [b,d]) ?_|refine qad hS (by kernel_rfl) ?_);conv => whnf)
 refine qan hE hS ?_
 conv => whnf
 repeat ((first|refine qak (nx_f t7) ?_|refine qac hC (qdw e2 [b,d]) ?_|refine qac hC (p1) ?_|refine qad hS (by kernel_rfl) ?_);conv => whnf)
 exact ⟨_,rfl,wk_i hV⟩
theorem qys {b d:UInt8} (h1:b.toNat = 48) (h3:48 ≤ d.toNat) (h4:d.toNat ≤ 57):qci prog 159 [.str [b,d]] (noP [b,d]) :=by
 have h2:b.toNat ≤ 57 :=by omega
 have h1:48 ≤ b.toNat :=by omega
 have hd:Utf8.decode ⟨[b,d].toArray⟩ 0 = (b.toNat,1) :=qc7 (l :=[b,d]) (p :=0) (Nat.succ_pos _) (show b.toNat < 128 by omega)
 have t1:decide (Int.ofNat (Utf8.decode ⟨[b,d].toArray⟩ 0).1 ≥ 48) = true :=decide_eq_true (by rw [hd];simp only [Int.ofNat_eq_natCast];omega)
 have t2:decide (Int.ofNat (Utf8.decode ⟨[b,d].toArray⟩ 0).1 ≤ 57) = true :=decide_eq_true (by rw [hd];simp only [Int.ofNat_eq_natCast];omega)
 have t4:decide (0 + (Utf8.decode ⟨[b,d].toArray⟩ 0).2 < [b,d].length) = true :=decide_eq_true (by rw [hd];show 0 + 1 < 2;omega)
 have v0:IntKind.i64.wrap (10 * 0) = 0 :=qel (by decide) (by decide)
 have hd2:Utf8.decode ⟨[b,d].toArray⟩ (0 + (Utf8.decode ⟨[b,d].toArray⟩ 0).2) = (d.toNat,1) :=by rw [hd];exact qc7 (l :=[b,d]) (p :=1) (Nat.lt_succ_self 1) (show d.toNat < 128 by omega)
 have t5:decide (Int.ofNat (Utf8.decode ⟨[b,d].toArray⟩ (0 + (Utf8.decode ⟨[b,d].toArray⟩ 0).2)).1 ≥ 48) = true :=decide_eq_true (by rw [hd2];simp only [Int.ofNat_eq_natCast];omega)
 have t6:decide (Int.ofNat (Utf8.decode ⟨[b,d].toArray⟩ (0 + (Utf8.decode ⟨[b,d].toArray⟩ 0).2)).1 ≤ 57) = true :=decide_eq_true (by rw [hd2];simp only [Int.ofNat_eq_natCast];omega)
 have t7:decide (0 + (Utf8.decode ⟨[b,d].toArray⟩ 0).2 + (Utf8.decode ⟨[b,d].toArray⟩ (0 + (Utf8.decode ⟨[b,d].toArray⟩ 0).2)).2 < [b,d].length) = false :=decide_eq_false (by rw [hd2,hd];show ¬ 0 + 1 + 1 < 2;omega)
 have hV:IntKind.i64.wrap (IntKind.i64.wrap (10 * IntKind.i64.wrap (IntKind.i64.wrap (10 * 0) + IntKind.i64.wrap (IntKind.i32.wrap (Int.ofNat (Utf8.decode ⟨[b,d].toArray⟩ 0).1 - 48)))) + IntKind.i64.wrap (IntKind.i32.wrap (Int.ofNat (Utf8.decode ⟨[b,d].toArray⟩ (0 + (Utf8.decode ⟨[b,d].toArray⟩ 0).2)).1 - 48))) = Int.ofNat (10 * (b.toNat - 48) + (d.toNat - 48)) :=by
  rw [hd2,hd,dgv _ (show b.toNat < 58 by omega) h1,dgv _ (show d.toNat < 58 by omega) h3,v0,Int.zero_add]
  rw [show IntKind.i64.wrap (Int.ofNat (b.toNat - 48)) = Int.ofNat (b.toNat - 48) from qaz (m :=b.toNat - 48) (by omega)]
  rw [show IntKind.i64.wrap (10 * Int.ofNat (b.toNat - 48)) = Int.ofNat (10 * (b.toNat - 48)) from qaz (m :=10 * (b.toNat - 48)) (by omega)]
  exact qaz (m :=10 * (b.toNat - 48) + (d.toNat - 48)) (by omega)
 have p1 :=qdj hV (by omega)
 have e2:(dec (10 * (b.toNat - 48) + (d.toNat - 48)) == [b,d]) = false :=beq_eq_false_iff_ne.2 fun z => by
  rw [dec,if_pos (by omega)] at z
  exact absurd (congrArg List.length z) (by simp)
 have lS:Lives noL [AV.str [b,d]] :=⟨trivial,trivial⟩
 refine qbj hE rfl (by repeat' first|exact trivial|assumption|exact qah _|exact fun _ h => nomatch h|apply And.intro) (by simp [noP,Live,Lives]) fun S q pc hS hq hC hE => ?_
 conv => whnf
 refine qan hE hS ?_
 conv => whnf
 repeat ((first|refine qag t1 ?_|refine qaf t1 ?_|refine pkT t1 ?_|refine qaa t1 ?_|refine qag (qaq t1) ?_|refine qaf (qaq t1) ?_|refine pkT (qaq t1) ?_|refine qaa (qaq t1) ?_|refine qag t2 ?_|refine qaf t2 ?_|refine pkT t2 ?_|refine qaa t2 ?_|refine qag (qaq t2) ?_|refine qaf (qaq t2) ?_|refine pkT (qaq t2) ?_|refine qaa (qaq t2) ?_|refine qac hC (qdq [b,d]) ?_|refine qad hS (by kernel_rfl) ?_);conv => whnf)
 refine qan hE hS ?_
 conv => whnf
 repeat ((first|refine qak (nx_t t4) ?_|refine qag t5 ?_|refine qaf t5 ?_|refine pkT t5 ?_|refine qaa t5 ?_|refine qag (qaq t5) ?_|refine qaf (qaq t5) ?_|refine pkT (qaq t5) ?_|refine qaa (qaq t5) ?_|refine qag t6 ?_|refine qaf t6 ?_|refine pkT t6 ?_|refine qaa t6 ?_|refine qag (qaq t6) ?_|refine qaf (qaq t6) ?_|refine pkT (qaq t6) ?_|refine qaa (qaq t6) ?_|refine qac hC (qdq [b,d]) ?_|refine qad hS (by kernel_rfl) ?_);conv => whnf)
 refine qan hE hS ?_
 conv => whnf
 repeat ((first|refine qak (nx_f t7) ?_|refine qac hC (p1) ?_|refine qad hS (by kernel_rfl) ?_);conv => whnf)
 refine qau hC ?_
 conv => whnf
 refine qa2 hS (qd9 e2 _) ?_
 conv => whnf
theorem qyt {b d:UInt8} (h1:48 ≤ b.toNat) (h2:b.toNat ≤ 57) (h3:¬ (48 ≤ d.toNat ∧ d.toNat ≤ 57)):qci prog 159 [.str [b,d]] (noP [b,d]) :=by
 have hd:Utf8.decode ⟨[b,d].toArray⟩ 0 = (b.toNat,1) :=qc7 (l :=[b,d]) (p :=0) (Nat.succ_pos _) (show b.toNat < 128 by omega)
 have t1:decide (Int.ofNat (Utf8.decode ⟨[b,d].toArray⟩ 0).1 ≥ 48) = true :=decide_eq_true (by rw [hd];simp only [Int.ofNat_eq_natCast];omega)
 have t2:decide (Int.ofNat (Utf8.decode ⟨[b,d].toArray⟩ 0).1 ≤ 57) = true :=decide_eq_true (by rw [hd];simp only [Int.ofNat_eq_natCast];omega)
 have t4:decide (0 + (Utf8.decode ⟨[b,d].toArray⟩ 0).2 < [b,d].length) = true :=decide_eq_true (by rw [hd];show 0 + 1 < 2;omega)
 have v0:IntKind.i64.wrap (10 * 0) = 0 :=qel (by decide) (by decide)
 have hd2:¬ (48 ≤ (Utf8.decode ⟨[b,d].toArray⟩ (0 + (Utf8.decode ⟨[b,d].toArray⟩ 0).2)).1 ∧ (Utf8.decode ⟨[b,d].toArray⟩ (0 + (Utf8.decode ⟨[b,d].toArray⟩ 0).2)).1 ≤ 57) :=by
  rw [hd]
  rcases qla (l :=[b,d]) (p :=1) (Nat.lt_succ_self 1) with k | k
  ·exact absurd ⟨k.1,k.2.1⟩ h3
  ·exact k.2
 have lS:Lives noL [AV.str [b,d]] :=⟨trivial,trivial⟩
 by_cases c1:48 ≤ (Utf8.decode ⟨[b,d].toArray⟩ (0 + (Utf8.decode ⟨[b,d].toArray⟩ 0).2)).1
 ·have t5:decide (Int.ofNat (Utf8.decode ⟨[b,d].toArray⟩ (0 + (Utf8.decode ⟨[b,d].toArray⟩ 0).2)).1 ≥ 48) = true :=decide_eq_true (by simp only [Int.ofNat_eq_natCast];omega)
  have f6:decide (Int.ofNat (Utf8.decode ⟨[b,d].toArray⟩ (0 + (Utf8.decode ⟨[b,d].toArray⟩ 0).2)).1 ≤ 57) = false :=decide_eq_false (by simp only [Int.ofNat_eq_natCast];omega)
  refine qbj hE rfl (by repeat' first|exact trivial|assumption|exact qah _|exact fun _ h => nomatch h|apply And.intro) (by simp [noP,Live,Lives]) fun S q pc hS hq hC hE => ?_
  conv => whnf
  refine qan hE hS ?_
  conv => whnf
  repeat ((first|refine qag t1 ?_|refine qaf t1 ?_|refine pkT t1 ?_|refine qaa t1 ?_|refine qag (qaq t1) ?_|refine qaf (qaq t1) ?_|refine pkT (qaq t1) ?_|refine qaa (qaq t1) ?_|refine qag t2 ?_|refine qaf t2 ?_|refine pkT t2 ?_|refine qaa t2 ?_|refine qag (qaq t2) ?_|refine qaf (qaq t2) ?_|refine pkT (qaq t2) ?_|refine qaa (qaq t2) ?_|refine qac hC (qdq [b,d]) ?_|refine qad hS (by kernel_rfl) ?_);conv => whnf)
  refine qan hE hS ?_
  conv => whnf
  repeat ((first|refine qak (nx_t t4) ?_|refine qag t5 ?_|refine qaf t5 ?_|refine pkT t5 ?_|refine qaa t5 ?_|refine qag (qaq t5) ?_|refine qaf (qaq t5) ?_|refine pkT (qaq t5) ?_|refine qaa (qaq t5) ?_|refine qal f6 ?_|refine qam f6 ?_|refine pkF f6 ?_|refine qab f6 ?_|refine qal (qao f6) ?_|refine qam (qao f6) ?_|refine pkF (qao f6) ?_|refine qab (qao f6) ?_|refine qad hS (by kernel_rfl) ?_);conv => whnf)
  refine qau hC ?_
  conv => whnf
  refine qa2 hS (qgo _) ?_
  conv => whnf
 ·have f5:decide (Int.ofNat (Utf8.decode ⟨[b,d].toArray⟩ (0 + (Utf8.decode ⟨[b,d].toArray⟩ 0).2)).1 ≥ 48) = false :=decide_eq_false (by simp only [Int.ofNat_eq_natCast];omega)
  refine qbj hE rfl (by repeat' first|exact trivial|assumption|exact qah _|exact fun _ h => nomatch h|apply And.intro) (by simp [noP,Live,Lives]) fun S q pc hS hq hC hE => ?_
  conv => whnf
  refine qan hE hS ?_
  conv => whnf
  repeat ((first|refine qag t1 ?_|refine qaf t1 ?_|refine pkT t1 ?_|refine qaa t1 ?_|refine qag (qaq t1) ?_|refine qaf (qaq t1) ?_|refine pkT (qaq t1) ?_|refine qaa (qaq t1) ?_|refine qag t2 ?_|refine qaf t2 ?_|refine pkT t2 ?_|refine qaa t2 ?_|refine qag (qaq t2) ?_|refine qaf (qaq t2) ?_|refine pkT (qaq t2) ?_|refine qaa (qaq t2) ?_|refine qac hC (qdq [b,d]) ?_|refine qad hS (by kernel_rfl) ?_);conv => whnf)
  refine qan hE hS ?_
  conv => whnf
  repeat ((first|refine qak (nx_t t4) ?_|refine qal f5 ?_|refine qam f5 ?_|refine pkF f5 ?_|refine qab f5 ?_|refine qal (qao f5) ?_|refine qam (qao f5) ?_|refine pkF (qao f5) ?_|refine qab (qao f5) ?_|refine qad hS (by kernel_rfl) ?_);conv => whnf)
  refine qau hC ?_
  conv => whnf
  refine qa2 hS (qgo _) ?_
  conv => whnf
theorem qdr (w:List UInt8) (hw:w.length ≤ 1000):(∃ n,n < 100 ∧ w = dec n ∧ Pure prog 159 [.str w] (nv n)) ∨ ((¬ ∃ n,n < 100 ∧ w = dec n) ∧ qci prog 159 [.str w] (noP w)) :=by
 have dlen:∀ n,(dec n) ≠ [] :=fun n => by
  unfold dec
  split
  ·exact fun h => nomatch h
  ·split <;> exact fun h => nomatch h
 have dd:∀ n,n < 100 → ∀ x,x ∈ dec n → 48 ≤ x.toNat ∧ x.toNat ≤ 57 :=by decide +kernel
 have d2:∀ n,n < 100 → (dec n).length ≤ 2 :=by decide +kernel
 have d0:∀ n,n < 100 → (dec n).length = 2 → (dec n).getD 0 0 ≠ 48 :=by decide +kernel
 rcases w with _ | ⟨b,_ | ⟨d,r⟩⟩
 ·exact .inr ⟨fun ⟨n,_,e⟩ => dlen n e.symm,num0⟩
 ·by_cases h:48 ≤ b.toNat ∧ b.toNat ≤ 57
  ·obtain ⟨p,e⟩ :=num1 h.1 h.2
   exact .inl ⟨_,by omega,e,p⟩
  ·exact .inr ⟨fun ⟨n,hn,e⟩ => h (dd n hn b (by rw [← e];exact List.mem_singleton.2 rfl)),numX h⟩
 ·by_cases h:48 ≤ b.toNat ∧ b.toNat ≤ 57
  ·rcases r with _ | ⟨x,r⟩
   ·by_cases h3:48 ≤ d.toNat ∧ d.toNat ≤ 57
    ·by_cases h0:b.toNat = 48
     ·refine .inr ⟨fun ⟨n,hn,e⟩ => d0 n hn (by rw [← e];rfl) (by rw [← e];exact UInt8.toNat_inj.1 h0),qys h0 h3.1 h3.2⟩
     ·obtain ⟨p,e⟩ :=num2 h.1 h.2 h3.1 h3.2 h0
      exact .inl ⟨_,by omega,e,p⟩
    ·exact .inr ⟨fun ⟨n,hn,e⟩ => h3 (dd n hn d (by rw [← e];simp)),qyt h.1 h.2 h3⟩
   ·refine .inr ⟨fun ⟨n,hn,e⟩ => absurd (d2 n hn) (by rw [← e];simp),numL h.1 h.2 (by simp) (by simp only [List.length_cons] at hw ⊢;omega)⟩
  ·exact .inr ⟨fun ⟨n,hn,e⟩ => h (dd n hn b (by rw [← e];simp)),numX h⟩
end
end Go.Abs.Seat
namespace Go.Abs.Seat
noncomputable section
open Go Go.Abs Go.Proofs.Tryz
set_option maxRecDepth 100000
set_option maxHeartbeats 40000000
attribute [local irreducible] pEq
theorem qou:Pure prog 156 [iv 0] (.str [112,105,101,99,101]) :=by
 refine qas hE rfl (by repeat' first|exact trivial|assumption|exact qah _|exact fun _ h => nomatch h|apply And.intro) (by repeat' first|exact trivial|assumption|exact qah _|exact fun _ h => nomatch h|apply And.intro) fun S q pc hS hq hC hE => ?_
 conv => whnf
 exact ⟨_,rfl,Wk.refl _⟩
theorem qov:Pure prog 156 [iv 1] (.str [108,105,110,107]) :=by
 refine qas hE rfl (by repeat' first|exact trivial|assumption|exact qah _|exact fun _ h => nomatch h|apply And.intro) (by repeat' first|exact trivial|assumption|exact qah _|exact fun _ h => nomatch h|apply And.intro) fun S q pc hS hq hC hE => ?_
 conv => whnf
 exact ⟨_,rfl,Wk.refl _⟩
theorem qow:Pure prog 156 [iv 2] (.str [104,97,110,100]) :=by
 refine qas hE rfl (by repeat' first|exact trivial|assumption|exact qah _|exact fun _ h => nomatch h|apply And.intro) (by repeat' first|exact trivial|assumption|exact qah _|exact fun _ h => nomatch h|apply And.intro) fun S q pc hS hq hC hE => ?_
 conv => whnf
 exact ⟨_,rfl,Wk.refl _⟩
theorem qgx (c:UInt8):∀ s p,p ∈ spl c s → p.length ≤ s.length
 | [],p,h => by
  rw [spl] at h
  rw [List.mem_singleton.1 h]
  exact Nat.le_refl _
 |b :: r,p,h => by
  have ih :=qgx c r
  rw [spl] at h
  split at h
  ·rcases List.mem_cons.1 h with rfl | h
   ·exact Nat.zero_le _
   ·have :=ih p h
    simp only [List.length_cons];omega
  ·split at h
   ·rename_i e
    exact absurd e (qkq c r)
   ·rename_i x t e
    rcases List.mem_cons.1 h with rfl | h
    ·have :=ih x (by rw [e];exact List.mem_cons_self ..)
     simp only [List.length_cons];omega
    ·have :=ih p (by rw [e];exact List.mem_cons_of_mem _ h)
     simp only [List.length_cons];omega
theorem qt5 (l:List Nat) (c:Nat):Wk (.lst (l.map fun n => nv n) l.length (.ch c)) (nl (zl l)) :=by
 have e:(l.map fun n => nv n) = ivs (zl l) :=by
  induction l with
  |nil => rfl
  |cons x r ih => rw [List.map_cons,ih];rfl
 rw [e]
 have e2:l.length = (zl l).length :=(qbs l).symm
 rw [e2]
 exact (WkV.own _ _ _).wk
theorem qq2 {s nm:List UInt8} {k:Int} (pn:Pure prog 156 [iv k] (.str nm)) (hs:s.length ≤ 1000) (h:¬ ∃ r,spl 32 s = nm :: r ∧ r.length = 1):qci prog 143 [.str s,iv k,iv 1] (noP s) :=by
 have pS :=qbn s 32 hs
 have lS:Lives noL [AV.str s,iv k,iv 1] :=⟨trivial,trivial,trivial,trivial⟩
 have hne :=qkq 32 s
 cases hp:spl 32 s with
 |nil => exact absurd hp hne
 |cons p0 r =>
  rw [hp] at pS
  have lR :=qa1 (p0 :: r)
  have ir:inR 0 (p0 :: r).length = true :=qaj (i :=0) (Nat.succ_pos _)
  by_cases e0:p0 = nm
  ·have t0:(p0 == nm) = true :=beq_iff_eq.2 e0
   have t1:(((p0 :: r).length:Int) == 2) = false :=beq_eq_false_iff_ne.2 fun z => h ⟨r,by rw [hp,e0],by rw [List.length_cons] at z;omega⟩
   refine qe4 hE rfl (by repeat' first|exact trivial|assumption|exact qah _|exact fun _ h => nomatch h|apply And.intro) (by simp [noP,Live,Lives]) fun S q pc hS hq hC hE => ?_
   conv => whnf
   refine qc8 (E :=E q pc) hS (qbm hE hS ?_)
   conv => whnf
   refine qc8 (E :=E q pc) hS (qbm hE hS ?_)
   conv => whnf
   repeat ((first|refine qac hC (pS) ?_|refine qad hS (by kernel_rfl) ?_);conv => whnf)
   refine qc8 (E :=E q pc) hS (qe3 hE hS ?_)
   conv => whnf
   repeat ((first|refine qag ir ?_|refine qaf ir ?_|refine pkT ir ?_|refine qaa ir ?_|refine qag t0 ?_|refine qaf t0 ?_|refine pkT t0 ?_|refine qaa t0 ?_|refine qag (qaq t0) ?_|refine qaf (qaq t0) ?_|refine pkT (qaq t0) ?_|refine qaa (qaq t0) ?_|refine qal t1 ?_|refine qam t1 ?_|refine pkF t1 ?_|refine qab t1 ?_|refine qal (qao t1) ?_|refine qam (qao t1) ?_|refine pkF (qao t1) ?_|refine qab (qao t1) ?_|refine qac hC (pn) ?_|refine qad hS (by kernel_rfl) ?_);conv => whnf)
   refine qau hC ?_
   conv => whnf
   refine qa2 hS (qd9 t1 _) ?_
   conv => whnf
  ·have t0:(p0 == nm) = false :=beq_eq_false_iff_ne.2 e0
   refine qe4 hE rfl (by repeat' first|exact trivial|assumption|exact qah _|exact fun _ h => nomatch h|apply And.intro) (by simp [noP,Live,Lives]) fun S q pc hS hq hC hE => ?_
   conv => whnf
   refine qc8 (E :=E q pc) hS (qbm hE hS ?_)
   conv => whnf
   refine qc8 (E :=E q pc) hS (qbm hE hS ?_)
   conv => whnf
   repeat ((first|refine qac hC (pS) ?_|refine qad hS (by kernel_rfl) ?_);conv => whnf)
   refine qc8 (E :=E q pc) hS (qe3 hE hS ?_)
   conv => whnf
   repeat ((first|refine qag ir ?_|refine qaf ir ?_|refine pkT ir ?_|refine qaa ir ?_|refine qal t0 ?_|refine qam t0 ?_|refine pkF t0 ?_|refine qab t0 ?_|refine qal (qao t0) ?_|refine qam (qao t0) ?_|refine pkF (qao t0) ?_|refine qab (qao t0) ?_|refine qac hC (pn) ?_|refine qad hS (by kernel_rfl) ?_);conv => whnf)
   refine qau hC ?_
   conv => whnf
   refine qa2 hS (qgo _) ?_
   conv => whnf
theorem qq1 {s nm:List UInt8} {k:Int} (pn:Pure prog 156 [iv k] (.str nm)) (hs:s.length ≤ 1000) (h:¬ ∃ r,spl 32 s = nm :: r ∧ r.length = 3):qci prog 143 [.str s,iv k,iv 3] (noP s) :=by
 have pS :=qbn s 32 hs
 have lS:Lives noL [AV.str s,iv k,iv 3] :=⟨trivial,trivial,trivial,trivial⟩
 have hne :=qkq 32 s
 cases hp:spl 32 s with
 |nil => exact absurd hp hne
 |cons p0 r =>
  rw [hp] at pS
  have lR :=qa1 (p0 :: r)
  have ir:inR 0 (p0 :: r).length = true :=qaj (i :=0) (Nat.succ_pos _)
  by_cases e0:p0 = nm
  ·have t0:(p0 == nm) = true :=beq_iff_eq.2 e0
   have t1:(((p0 :: r).length:Int) == 4) = false :=beq_eq_false_iff_ne.2 fun z => h ⟨r,by rw [hp,e0],by rw [List.length_cons] at z;omega⟩
   refine qe4 hE rfl (by repeat' first|exact trivial|assumption|exact qah _|exact fun _ h => nomatch h|apply And.intro) (by simp [noP,Live,Lives]) fun S q pc hS hq hC hE => ?_
   conv => whnf
   refine qc8 (E :=E q pc) hS (qbm hE hS ?_)
   conv => whnf
   refine qc8 (E :=E q pc) hS (qbm hE hS ?_)
   conv => whnf
   repeat ((first|refine qac hC (pS) ?_|refine qad hS (by kernel_rfl) ?_);conv => whnf)
   refine qc8 (E :=E q pc) hS (qe3 hE hS ?_)
   conv => whnf
   repeat ((first|refine qag ir ?_|refine qaf ir ?_|refine pkT ir ?_|refine qaa ir ?_|refine qag t0 ?_|refine qaf t0 ?_|refine pkT t0 ?_|refine qaa t0 ?_|refine qag (qaq t0) ?_|refine qaf (qaq t0) ?_|refine pkT (qaq t0) ?_|refine qaa (qaq t0) ?_|refine qal t1 ?_|refine qam t1 ?_|refine pkF t1 ?_|refine qab t1 ?_|refine qal (qao t1) ?_|refine qam (qao t1) ?_|refine pkF (qao t1) ?_|refine qab (qao t1) ?_|refine qac hC (pn) ?_|refine qad hS (by kernel_rfl) ?_);conv => whnf)
   refine qau hC ?_
   conv => whnf
   refine qa2 hS (qd9 t1 _) ?_
   conv => whnf
  ·have t0:(p0 == nm) = false :=beq_eq_false_iff_ne.2 e0
   refine qe4 hE rfl (by repeat' first|exact trivial|assumption|exact qah _|exact fun _ h => nomatch h|apply And.intro) (by simp [noP,Live,Lives]) fun S q pc hS hq hC hE => ?_
   conv => whnf
   refine qc8 (E :=E q pc) hS (qbm hE hS ?_)
   conv => whnf
   refine qc8 (E :=E q pc) hS (qbm hE hS ?_)
   conv => whnf
   repeat ((first|refine qac hC (pS) ?_|refine qad hS (by kernel_rfl) ?_);conv => whnf)
   refine qc8 (E :=E q pc) hS (qe3 hE hS ?_)
   conv => whnf
   repeat ((first|refine qag ir ?_|refine qaf ir ?_|refine pkT ir ?_|refine qaa ir ?_|refine qal t0 ?_|refine qam t0 ?_|refine pkF t0 ?_|refine qab t0 ?_|refine qal (qao t0) ?_|refine qam (qao t0) ?_|refine pkF (qao t0) ?_|refine qab (qao t0) ?_|refine qac hC (pn) ?_|refine qad hS (by kernel_rfl) ?_);conv => whnf)
   refine qau hC ?_
   conv => whnf
   refine qa2 hS (qgo _) ?_
   conv => whnf
theorem qti {s nm p1:List UInt8} {n1:Nat} {k:Int} (pn:Pure prog 156 [iv k] (.str nm)) (hs:s.length ≤ 1000) (h:spl 32 s = [nm,p1]) (q1:Pure prog 159 [.str p1] (nv n1)):Pure prog 143 [.str s,iv k,iv 1] (nl (zl [n1])) :=by
 have pS :=qbn s 32 hs
 rw [h] at pS
 have lR :=qa1 [nm,p1]
 have t0:(nm == nm) = true :=beq_self_eq_true nm
 refine qas hE rfl (by repeat' first|exact trivial|assumption|exact qah _|exact fun _ h => nomatch h|apply And.intro) (by repeat' first|exact trivial|assumption|exact qah _|exact fun _ h => nomatch h|apply And.intro) fun S q pc hS hq hC hE => ?_
 conv => whnf
 repeat ((first|refine qag t0 ?_|refine qaf t0 ?_|refine pkT t0 ?_|refine qaa t0 ?_|refine qag (qaq t0) ?_|refine qaf (qaq t0) ?_|refine pkT (qaq t0) ?_|refine qaa (qaq t0) ?_|refine qac hC (pS) ?_|refine qac hC (pn) ?_|refine qac hC (qdq s) ?_|refine qad hS (by kernel_rfl) ?_);conv => whnf)
 refine qan hE hS ?_
 conv => whnf
 repeat ((first|refine qac hC (q1) ?_|refine qad hS (by kernel_rfl) ?_);conv => whnf)
 refine qan hE hS ?_
 conv => whnf
 repeat ((first|refine qad hS (by kernel_rfl) ?_);conv => whnf)
 exact ⟨_,rfl,qt5 [n1] _⟩
theorem qte {s nm p1 p2 p3:List UInt8} {n1 n2 n3:Nat} {k:Int} (pn:Pure prog 156 [iv k] (.str nm)) (hs:s.length ≤ 1000) (h:spl 32 s = [nm,p1,p2,p3]) (q1:Pure prog 159 [.str p1] (nv n1)) (q2:Pure prog 159 [.str p2] (nv n2)) (q3:Pure prog 159 [.str p3] (nv n3)):Pure prog 143 [.str s,iv k,iv 3] (nl (zl [n1,n2,n3])) :=by
 have pS :=qbn s 32 hs
 rw [h] at pS
 have lR :=qa1 [nm,p1,p2,p3]
 have t0:(nm == nm) = true :=beq_self_eq_true nm
 refine qas hE rfl (by repeat' first|exact trivial|assumption|exact qah _|exact fun _ h => nomatch h|apply And.intro) (by repeat' first|exact trivial|assumption|exact qah _|exact fun _ h => nomatch h|apply And.intro) fun S q pc hS hq hC hE => ?_
 conv => whnf
 repeat ((first|refine qag t0 ?_|refine qaf t0 ?_|refine pkT t0 ?_|refine qaa t0 ?_|refine qag (qaq t0) ?_|refine qaf (qaq t0) ?_|refine pkT (qaq t0) ?_|refine qaa (qaq t0) ?_|refine qac hC (pS) ?_|refine qac hC (pn) ?_|refine qac hC (qdq s) ?_|refine qad hS (by kernel_rfl) ?_);conv => whnf)
 refine qan hE hS ?_
 conv => whnf
 repeat ((first|refine qac hC (q1) ?_|refine qad hS (by kernel_rfl) ?_);conv => whnf)
 refine qan hE hS ?_
 conv => whnf
 repeat ((first|refine qac hC (q2) ?_|refine qad hS (by kernel_rfl) ?_);conv => whnf)
 refine qan hE hS ?_
 conv => whnf
 repeat ((first|refine qac hC (q3) ?_|refine qad hS (by kernel_rfl) ?_);conv => whnf)
 refine qan hE hS ?_
 conv => whnf
 repeat ((first|refine qad hS (by kernel_rfl) ?_);conv => whnf)
 exact ⟨_,rfl,qt5 [n1,n2,n3] _⟩
theorem qtj {s nm p1:List UInt8}  {k:Int} (pn:Pure prog 156 [iv k] (.str nm)) (hs:s.length ≤ 1000) (h:spl 32 s = [nm,p1])  (x:qci prog 159 [.str p1] (noP p1)):qci prog 143 [.str s,iv k,iv 1] (noP p1) :=by
 have pS :=qbn s 32 hs
 rw [h] at pS
 have lS:Lives noL [AV.str s,iv k,iv 1] :=⟨trivial,trivial,trivial,trivial⟩
 have lR :=qa1 [nm,p1]
 have t0:(nm == nm) = true :=beq_self_eq_true nm
 refine qbj hE rfl (by repeat' first|exact trivial|assumption|exact qah _|exact fun _ h => nomatch h|apply And.intro) (by simp [noP,Live,Lives]) fun S q pc hS hq hC hE => ?_
 conv => whnf
 repeat ((first|refine qag t0 ?_|refine qaf t0 ?_|refine pkT t0 ?_|refine qaa t0 ?_|refine qag (qaq t0) ?_|refine qaf (qaq t0) ?_|refine pkT (qaq t0) ?_|refine qaa (qaq t0) ?_|refine qac hC (pS) ?_|refine qac hC (pn) ?_|refine qac hC (qdq s) ?_|refine qad hS (by kernel_rfl) ?_);conv => whnf)
 refine qan hE hS ?_
 conv => whnf
 repeat ((first|refine qad hS (by kernel_rfl) ?_);conv => whnf)
 refine qau hC ?_
 conv => whnf
 refine qa2 hS (x) ?_
 conv => whnf
theorem qth {s nm p1 p2 p3:List UInt8}  {k:Int} (pn:Pure prog 156 [iv k] (.str nm)) (hs:s.length ≤ 1000) (h:spl 32 s = [nm,p1,p2,p3])  (x:qci prog 159 [.str p1] (noP p1)):qci prog 143 [.str s,iv k,iv 3] (noP p1) :=by
 have pS :=qbn s 32 hs
 rw [h] at pS
 have lS:Lives noL [AV.str s,iv k,iv 3] :=⟨trivial,trivial,trivial,trivial⟩
 have lR :=qa1 [nm,p1,p2,p3]
 have t0:(nm == nm) = true :=beq_self_eq_true nm
 refine qbj hE rfl (by repeat' first|exact trivial|assumption|exact qah _|exact fun _ h => nomatch h|apply And.intro) (by simp [noP,Live,Lives]) fun S q pc hS hq hC hE => ?_
 conv => whnf
 repeat ((first|refine qag t0 ?_|refine qaf t0 ?_|refine pkT t0 ?_|refine qaa t0 ?_|refine qag (qaq t0) ?_|refine qaf (qaq t0) ?_|refine pkT (qaq t0) ?_|refine qaa (qaq t0) ?_|refine qac hC (pS) ?_|refine qac hC (pn) ?_|refine qac hC (qdq s) ?_|refine qad hS (by kernel_rfl) ?_);conv => whnf)
 refine qan hE hS ?_
 conv => whnf
 repeat ((first|refine qad hS (by kernel_rfl) ?_);conv => whnf)
 refine qau hC ?_
 conv => whnf
 refine qa2 hS (x) ?_
 conv => whnf
theorem qtg {s nm p1 p2 p3:List UInt8} {n1:Nat} {k:Int} (pn:Pure prog 156 [iv k] (.str nm)) (hs:s.length ≤ 1000) (h:spl 32 s = [nm,p1,p2,p3]) (q1:Pure prog 159 [.str p1] (nv n1)) (x:qci prog 159 [.str p2] (noP p2)):qci prog 143 [.str s,iv k,iv 3] (noP p2) :=by
 have pS :=qbn s 32 hs
 rw [h] at pS
 have lS:Lives noL [AV.str s,iv k,iv 3] :=⟨trivial,trivial,trivial,trivial⟩
 have lR :=qa1 [nm,p1,p2,p3]
 have t0:(nm == nm) = true :=beq_self_eq_true nm
 refine qbj hE rfl (by repeat' first|exact trivial|assumption|exact qah _|exact fun _ h => nomatch h|apply And.intro) (by simp [noP,Live,Lives]) fun S q pc hS hq hC hE => ?_
 conv => whnf
 repeat ((first|refine qag t0 ?_|refine qaf t0 ?_|refine pkT t0 ?_|refine qaa t0 ?_|refine qag (qaq t0) ?_|refine qaf (qaq t0) ?_|refine pkT (qaq t0) ?_|refine qaa (qaq t0) ?_|refine qac hC (pS) ?_|refine qac hC (pn) ?_|refine qac hC (qdq s) ?_|refine qad hS (by kernel_rfl) ?_);conv => whnf)
 refine qan hE hS ?_
 conv => whnf
 repeat ((first|refine qac hC (q1) ?_|refine qad hS (by kernel_rfl) ?_);conv => whnf)
 refine qan hE hS ?_
 conv => whnf
 repeat ((first|refine qad hS (by kernel_rfl) ?_);conv => whnf)
 refine qau hC ?_
 conv => whnf
 refine qa2 hS (x) ?_
 conv => whnf
theorem qtf {s nm p1 p2 p3:List UInt8} {n1 n2:Nat} {k:Int} (pn:Pure prog 156 [iv k] (.str nm)) (hs:s.length ≤ 1000) (h:spl 32 s = [nm,p1,p2,p3]) (q1:Pure prog 159 [.str p1] (nv n1)) (q2:Pure prog 159 [.str p2] (nv n2)) (x:qci prog 159 [.str p3] (noP p3)):qci prog 143 [.str s,iv k,iv 3] (noP p3) :=by
 have pS :=qbn s 32 hs
 rw [h] at pS
 have lS:Lives noL [AV.str s,iv k,iv 3] :=⟨trivial,trivial,trivial,trivial⟩
 have lR :=qa1 [nm,p1,p2,p3]
 have t0:(nm == nm) = true :=beq_self_eq_true nm
 refine qbj hE rfl (by repeat' first|exact trivial|assumption|exact qah _|exact fun _ h => nomatch h|apply And.intro) (by simp [noP,Live,Lives]) fun S q pc hS hq hC hE => ?_
 conv => whnf
 repeat ((first|refine qag t0 ?_|refine qaf t0 ?_|refine pkT t0 ?_|refine qaa t0 ?_|refine qag (qaq t0) ?_|refine qaf (qaq t0) ?_|refine pkT (qaq t0) ?_|refine qaa (qaq t0) ?_|refine qac hC (pS) ?_|refine qac hC (pn) ?_|refine qac hC (qdq s) ?_|refine qad hS (by kernel_rfl) ?_);conv => whnf)
 refine qan hE hS ?_
 conv => whnf
 repeat ((first|refine qac hC (q1) ?_|refine qad hS (by kernel_rfl) ?_);conv => whnf)
 refine qan hE hS ?_
 conv => whnf
 repeat ((first|refine qac hC (q2) ?_|refine qad hS (by kernel_rfl) ?_);conv => whnf)
 refine qan hE hS ?_
 conv => whnf
 repeat ((first|refine qad hS (by kernel_rfl) ?_);conv => whnf)
 refine qau hC ?_
 conv => whnf
 refine qa2 hS (x) ?_
 conv => whnf
theorem qxp {s nm:List UInt8} {k:Int} (pn:Pure prog 156 [iv k] (.str nm)) (hs:s.length ≤ 1000):(∃ n,n < 100 ∧ spl 32 s = [nm,dec n] ∧ Pure prog 143 [.str s,iv k,iv 1] (nl (zl [n]))) ∨ ((¬ ∃ n,n < 100 ∧ spl 32 s = [nm,dec n]) ∧ ∃ why,qci prog 143 [.str s,iv k,iv 1] (noP why)) :=by
 have hb :=qgx 32 s
 by_cases h:∃ r,spl 32 s = nm :: r ∧ r.length = 1
 ·obtain ⟨r,e,l⟩ :=h
  rcases r with _ | ⟨p1,_ | ⟨p2,r⟩⟩
  ·cases l
  ·have b1 :=hb p1 (by rw [e];simp)
   rcases qdr p1 (by omega) with ⟨n,hn,rfl,q⟩ | ⟨hn,q⟩
   ·exact .inl ⟨n,hn,e,qti pn hs e q⟩
   ·refine .inr ⟨fun ⟨n,h1,h2⟩ => hn ⟨n,h1,?_⟩,_,qtj pn hs e q⟩
    rw [e] at h2
    simpa using h2
  ·simp at l
 ·exact .inr ⟨fun ⟨n,_,h2⟩ => h ⟨_,h2,rfl⟩,_,qq2 pn hs h⟩
theorem qyr {s nm:List UInt8} {k:Int} (pn:Pure prog 156 [iv k] (.str nm)) (hs:s.length ≤ 1000):(∃ a b c,(a < 100 ∧ b < 100 ∧ c < 100) ∧ spl 32 s = [nm,dec a,dec b,dec c] ∧ Pure prog 143 [.str s,iv k,iv 3] (nl (zl [a,b,c]))) ∨ ((¬ ∃ a b c,(a < 100 ∧ b < 100 ∧ c < 100) ∧ spl 32 s = [nm,dec a,dec b,dec c]) ∧ ∃ why,qci prog 143 [.str s,iv k,iv 3] (noP why)) :=by
 have hb :=qgx 32 s
 by_cases h:∃ r,spl 32 s = nm :: r ∧ r.length = 3
 ·obtain ⟨r,e,l⟩ :=h
  rcases r with _ | ⟨p1,_ | ⟨p2,_ | ⟨p3,_ | ⟨p4,r⟩⟩⟩⟩
  ·cases l
  ·cases l
  ·cases l
  ·have b1 :=hb p1 (by rw [e];simp)
   have b2 :=hb p2 (by rw [e];simp)
   have b3 :=hb p3 (by rw [e];simp)
   rcases qdr p1 (by omega) with ⟨a,ha,rfl,q1⟩ | ⟨hn,q1⟩
   ·rcases qdr p2 (by omega) with ⟨b,hb,rfl,q2⟩ | ⟨hn,q2⟩
    ·rcases qdr p3 (by omega) with ⟨c,hc,rfl,q3⟩ | ⟨hn,q3⟩
     ·exact .inl ⟨a,b,c,⟨ha,hb,hc⟩,e,qte pn hs e q1 q2 q3⟩
     ·refine .inr ⟨fun ⟨x,y,z,h1,h2⟩ => hn ⟨z,h1.2.2,?_⟩,_,qtf pn hs e q1 q2 q3⟩
      rw [e] at h2
      simp at h2
      exact h2.2.2
    ·refine .inr ⟨fun ⟨x,y,z,h1,h2⟩ => hn ⟨y,h1.2.1,?_⟩,_,qtg pn hs e q1 q2⟩
     rw [e] at h2
     simp at h2
     exact h2.2.1
   ·refine .inr ⟨fun ⟨x,y,z,h1,h2⟩ => hn ⟨x,h1.1,?_⟩,_,qth pn hs e q1⟩
    rw [e] at h2
    simp at h2
    exact h2.1
  ·simp at l
 ·exact .inr ⟨fun ⟨a,b,c,_,h2⟩ => h ⟨_,h2,rfl⟩,_,qq1 pn hs h⟩
end
end Go.Abs.Seat
namespace Go.Abs.Seat
noncomputable section
open Go Go.Abs Go.Proofs.Tryz
set_option maxRecDepth 100000
set_option maxHeartbeats 40000000
attribute [local irreducible] IntKind.wrap pEq
theorem qa9 {l:List (List UInt8)} {i:Nat} (h:i < l.length):nth (stA l) (i * 1) = some (.str (gB l i)) :=by
 rw [qhw,Nat.mul_one]
 unfold stA gB
 rw [List.getElem?_map,List.getElem?_eq_getElem h]
 simp [List.getD,h]
def rlL (x:Lk):List UInt8 :=((((([108,105,110,107,32] ++ dec x.1) ++ [32]) ++ dec x.2.1) ++ [32]) ++ dec x.2.2)
theorem qxe (x:Lk):rlL x = lnL x :=by
 unfold rlL lnL
 simp only [List.append_assoc,List.cons_append,List.nil_append]
theorem qm5 (x:Lk):([108,105,110,107,32] ++ dec x.1).length ≤ 1000000 ∧ (([108,105,110,107,32] ++ dec x.1) ++ [32]).length ≤ 1000000 ∧ ((([108,105,110,107,32] ++ dec x.1) ++ [32]) ++ dec x.2.1).length ≤ 1000000 ∧ (((([108,105,110,107,32] ++ dec x.1) ++ [32]) ++ dec x.2.1) ++ [32]).length ≤ 1000000 ∧ (rlL x).length ≤ 1000000 :=by
 have a1 :=qbi x.1
 have a2 :=qbi x.2.1
 have a3 :=qbi x.2.2
 unfold rlL
 simp only [List.length_append,List.length_cons,List.length_nil]
 omega
def lnsP (m:Nat) (N:List Lk) (H:List Nat):List (List UInt8) :=lnM m :: (N.map lnL ++ H.map lnH)
theorem qg4 (m:Nat) (N:List Lk) (H:List Nat):(lnsP m N H).length = N.length + H.length + 1 :=by
 unfold lnsP
 rw [List.length_cons,List.length_append,List.length_map,List.length_map]
theorem qg6 {l:List (List UInt8)} {n:Nat} (h:l.length = n):qc6 (stA l) (n * 1) = true :=by
 rw [Nat.mul_one,← h,← qga]
 exact qcp _
theorem qtm (n c:Nat) (N:List Lk) {i:Nat} (h:i < N.length):AV.lst (stA (lnsP N.length (N.take i) []) ++ [.str (rlL (gN N i))]) n (.ch c) = .lst (stA (lnsP N.length (N.take (i + 1)) [])) n (.ch c) :=by
 rw [qhg N h,qxe]
 unfold lnsP stA
 simp
theorem qv7 (n c m:Nat) (N:List Lk) (H:List Nat) {i:Nat} (h:i < H.length):AV.lst (stA (lnsP m N (H.take i)) ++ [.str (lnH (gn H i))]) n (.ch c) = .lst (stA (lnsP m N (H.take (i + 1)))) n (.ch c) :=by
 rw [qf8 H h]
 unfold lnsP stA
 simp
theorem qme (H:List Nat) {i:Nat} (h:i < H.length):gn H i ∈ H :=by
 have e:gn H i = H[i] :=by simp [gn,List.getD,h]
 rw [e];exact List.getElem_mem h
theorem qtd (l:List (List UInt8)) (i:Nat):(ouB l i ++ gB l i) ++ [10] = ouB l (i + 1) :=by rw [ouB,List.append_assoc]
theorem qej {x:Int} {m:Nat} (hx:x = Int.ofNat m) (hm:m < 1000):Pure prog 96 [iv x] (.str (dec m)) :=by subst hx;exact qbd hm
theorem qs2 {N:List Lk} {H:List Nat} (h:okT N H) (hN:N.length ≤ 400) (hH:H.length ≤ 400) (h1:1 ≤ N.length):Pure prog 45 [.agg [nkA N,nl (zl H)]] (.str (prtB N H)) :=by
 have lH :=qav (zl H)
 have pN :=qbd (n :=N.length) (by omega)
 have f1 :=mil (qgg N.length) rfl
 have lN :=qa5 (cL N)
 have h0 :=h.1 (gN N 0) (qi3 N h1)
 have q1 :=qbd (show (gN N 0).1 < 1000 by omega)
 have q2 :=qbd (show (gN N 0).2.1 < 1000 by omega)
 have q3 :=qbd (show (gN N 0).2.2 < 1000 by omega)
 have b :=qm5 (gN N 0)
 have eR0 :=qtm 2 20 N h1
 refine qas hE rfl (by repeat' first|exact trivial|assumption|exact qah _|exact fun _ h => nomatch h|apply And.intro) (by repeat' first|exact trivial|assumption|exact qah _|exact fun _ h => nomatch h|apply And.intro) fun S q pc hS hq hC hE => ?_
 conv => whnf
 repeat ((first|refine qag (stOk f1) ?_|refine qaf (stOk f1) ?_|refine pkT (stOk f1) ?_|refine qaa (stOk f1) ?_|refine qal (stOk f1) ?_|refine qam (stOk f1) ?_|refine pkF (stOk f1) ?_|refine qab (stOk f1) ?_|refine qac hC (pN) ?_|refine qad hS (by kernel_rfl) ?_);conv => whnf)
 refine qan hE hS ?_
 conv => whnf
 repeat ((first|refine qak (takP (qfc N h1)) ?_|refine qag (qae h1) ?_|refine qaf (qae h1) ?_|refine pkT (qae h1) ?_|refine qaa (qae h1) ?_|refine qal (qae h1) ?_|refine qam (qae h1) ?_|refine pkF (qae h1) ?_|refine qab (qae h1) ?_|refine qag (qaj h1) ?_|refine qaf (qaj h1) ?_|refine pkT (qaj h1) ?_|refine qaa (qaj h1) ?_|refine qag (stOk b.1) ?_|refine qaf (stOk b.1) ?_|refine pkT (stOk b.1) ?_|refine qaa (stOk b.1) ?_|refine qal (stOk b.1) ?_|refine qam (stOk b.1) ?_|refine pkF (stOk b.1) ?_|refine qab (stOk b.1) ?_|refine qag (stOk b.2.1) ?_|refine qaf (stOk b.2.1) ?_|refine pkT (stOk b.2.1) ?_|refine qaa (stOk b.2.1) ?_|refine qal (stOk b.2.1) ?_|refine qam (stOk b.2.1) ?_|refine pkF (stOk b.2.1) ?_|refine qab (stOk b.2.1) ?_|refine qag (stOk b.2.2.1) ?_|refine qaf (stOk b.2.2.1) ?_|refine pkT (stOk b.2.2.1) ?_|refine qaa (stOk b.2.2.1) ?_|refine qal (stOk b.2.2.1) ?_|refine qam (stOk b.2.2.1) ?_|refine pkF (stOk b.2.2.1) ?_|refine qab (stOk b.2.2.1) ?_|refine qag (stOk b.2.2.2.1) ?_|refine qaf (stOk b.2.2.2.1) ?_|refine pkT (stOk b.2.2.2.1) ?_|refine qaa (stOk b.2.2.2.1) ?_|refine qal (stOk b.2.2.2.1) ?_|refine qam (stOk b.2.2.2.1) ?_|refine pkF (stOk b.2.2.2.1) ?_|refine qab (stOk b.2.2.2.1) ?_|refine qag (stOk b.2.2.2.2) ?_|refine qaf (stOk b.2.2.2.2) ?_|refine pkT (stOk b.2.2.2.2) ?_|refine qaa (stOk b.2.2.2.2) ?_|refine qal (stOk b.2.2.2.2) ?_|refine qam (stOk b.2.2.2.2) ?_|refine pkF (stOk b.2.2.2.2) ?_|refine qab (stOk b.2.2.2.2) ?_|refine qac hC (pN) ?_|refine qac hC (q1) ?_|refine qac hC (q2) ?_|refine qac hC (q3) ?_|refine qad hS (by kernel_rfl) ?_);conv => whnf)
 refine qax hE hS (A :=Nat) [1] (fun i => [(3,.lst (stA (lnsP N.length (N.take i) [])) (i + 1) (.ch 20)),(4,nv i)]) (fun i => [(20,.chain (i + 1) 1 9)]) (fun _ => []) (fun i => 1 ≤ i ∧ i ≤ N.length) (fun i => N.length - i) 1 (kle rfl) rfl (by refine ⟨rfl,rfl,rfl,rfl,rfl,rfl,22,rfl,?_,?_⟩ <;> repeat' (first|exact trivial|exact rfl|exact wkr rfl|exact wko rfl|exact Nat.zero_le _|exact ⟨_,rfl,WkV.int (qaz (m :=1) (by decide))⟩|exact ⟨_,rfl,WkV.eq eR0⟩|exact qai lN|exact qai lH|exact qbg (qa1 _) (by decide)|exact kle rfl|exact bdq|exact mxI rfl|exact mxS rfl|apply And.intro)) ⟨Nat.le_refl _,h1⟩ ?_
 intro i ⟨hi,hiN⟩ K hK
 obtain rfl:K = 22 :=hK
 conv => whnf
 by_cases hi2:i < N.length
 ·have hi1:IntKind.i64.wrap (Int.ofNat i + 1) = Int.ofNat (i + 1) :=qaz (m :=i + 1) (by omega)
  have d1:decide ((i + 1 + (0 + 1)) * 16 ≤ 140737488355328) = true :=decide_eq_true (by omega)
  have d2:decide (i + 1 + (0 + 1) ≤ 9223372036854775807) = true :=decide_eq_true (by omega)
  have d3 :=qg6 (l :=lnsP N.length (N.take i) []) (n :=i + 1) (by rw [qg4,List.length_take];simp only [List.length_nil];omega)
  have d4:decide (i + 1 = i + 1) = true :=decide_eq_true rfl
  have h0 :=h.1 (gN N i) (qi3 N hi2)
  have q1 :=qbd (show (gN N i).1 < 1000 by omega)
  have q2 :=qbd (show (gN N i).2.1 < 1000 by omega)
  have q3 :=qbd (show (gN N i).2.2 < 1000 by omega)
  have b :=qm5 (gN N i)
  repeat ((first|refine qak (takP (qfc N hi2)) ?_|refine qag (qae hi2) ?_|refine qaf (qae hi2) ?_|refine pkT (qae hi2) ?_|refine qaa (qae hi2) ?_|refine qal (qae hi2) ?_|refine qam (qae hi2) ?_|refine pkF (qae hi2) ?_|refine qab (qae hi2) ?_|refine qag (qaj hi2) ?_|refine qaf (qaj hi2) ?_|refine pkT (qaj hi2) ?_|refine qaa (qaj hi2) ?_|refine qag d1 ?_|refine qaf d1 ?_|refine pkT d1 ?_|refine qaa d1 ?_|refine qag d2 ?_|refine qaf d2 ?_|refine pkT d2 ?_|refine qaa d2 ?_|refine qag d3 ?_|refine qaf d3 ?_|refine pkT d3 ?_|refine qaa d3 ?_|refine qal d3 ?_|refine qam d3 ?_|refine pkF d3 ?_|refine qab d3 ?_|refine qag d4 ?_|refine qaf d4 ?_|refine pkT d4 ?_|refine qaa d4 ?_|refine qag (stOk b.1) ?_|refine qaf (stOk b.1) ?_|refine pkT (stOk b.1) ?_|refine qaa (stOk b.1) ?_|refine qal (stOk b.1) ?_|refine qam (stOk b.1) ?_|refine pkF (stOk b.1) ?_|refine qab (stOk b.1) ?_|refine qag (stOk b.2.1) ?_|refine qaf (stOk b.2.1) ?_|refine pkT (stOk b.2.1) ?_|refine qaa (stOk b.2.1) ?_|refine qal (stOk b.2.1) ?_|refine qam (stOk b.2.1) ?_|refine pkF (stOk b.2.1) ?_|refine qab (stOk b.2.1) ?_|refine qag (stOk b.2.2.1) ?_|refine qaf (stOk b.2.2.1) ?_|refine pkT (stOk b.2.2.1) ?_|refine qaa (stOk b.2.2.1) ?_|refine qal (stOk b.2.2.1) ?_|refine qam (stOk b.2.2.1) ?_|refine pkF (stOk b.2.2.1) ?_|refine qab (stOk b.2.2.1) ?_|refine qag (stOk b.2.2.2.1) ?_|refine qaf (stOk b.2.2.2.1) ?_|refine pkT (stOk b.2.2.2.1) ?_|refine qaa (stOk b.2.2.2.1) ?_|refine qal (stOk b.2.2.2.1) ?_|refine qam (stOk b.2.2.2.1) ?_|refine pkF (stOk b.2.2.2.1) ?_|refine qab (stOk b.2.2.2.1) ?_|refine qag (stOk b.2.2.2.2) ?_|refine qaf (stOk b.2.2.2.2) ?_|refine pkT (stOk b.2.2.2.2) ?_|refine qaa (stOk b.2.2.2.2) ?_|refine qal (stOk b.2.2.2.2) ?_|refine qam (stOk b.2.2.2.2) ?_|refine pkF (stOk b.2.2.2.2) ?_|refine qab (stOk b.2.2.2.2) ?_|refine qac hC (q1) ?_|refine qac hC (q2) ?_|refine qac hC (q3) ?_|refine qad hS (by kernel_rfl) ?_);conv => whnf)
  exact ⟨i + 1,⟨by omega,hi2⟩,by omega,kle rfl,(by refine ⟨rfl,rfl,rfl,rfl,rfl,rfl,22,rfl,?_,?_⟩ <;> repeat' (first|exact trivial|exact rfl|exact wkr rfl|exact wko rfl|exact Nat.zero_le _|exact ⟨_,rfl,WkV.int hi1⟩|exact ⟨_,rfl,WkV.eq (qtm (i + 1 + 1) 20 N hi2)⟩|exact qai lN|exact qai lH|exact qbg (qa1 _) (by decide)|exact kle rfl|exact bdq|exact mxI rfl|exact mxS rfl|apply And.intro))⟩
 ·refine qab (qbe hi2) ?_
  conv => whnf
  refine .inl ?_
  conv => whnf
  have hiE:i = N.length :=by omega
  have eR:AV.lst (stA (lnsP N.length (N.take i) [])) (i + 1) (.ch 20) = .lst (stA (lnsP N.length N (H.take 0))) (N.length + 1 + 0) (.ch 20) :=by rw [hiE,List.take_length];rfl
  have eC:AObj.chain (i + 1) 1 9 = .chain (N.length + 1 + 0) 1 9 :=by rw [hiE]
  refine qax hE hS (A :=Nat) [1] (fun j => [(3,.lst (stA (lnsP N.length N (H.take j))) (N.length + 1 + j) (.ch 20)),(6,nv j)]) (fun j => [(20,.chain (N.length + 1 + j) 1 9)]) (fun _ => []) (fun j => j ≤ H.length) (fun j => H.length - j) 0 (kle rfl) rfl (by refine ⟨rfl,rfl,rfl,rfl,rfl,rfl,22,rfl,?_,?_⟩ <;> repeat' (first|exact trivial|exact rfl|exact wkr rfl|exact wko rfl|exact Nat.zero_le _|exact ⟨_,rfl,WkV.eq eR⟩|exact eC|exact qai lN|exact qai lH|exact qbg (qa1 _) (by decide)|exact kle rfl|exact bdq|exact mxI rfl|exact mxS rfl|apply And.intro)) (Nat.zero_le _) ?_
  intro j hj K hK
  obtain rfl:K = 22 :=hK
  conv => whnf
  by_cases hj2:j < H.length
  ·have hj1:IntKind.i64.wrap (Int.ofNat j + 1) = Int.ofNat (j + 1) :=qaz (m :=j + 1) (by omega)
   have hjz:j < (zl H).length :=by rw [qbs];exact hj2
   have gj:nth (ivs (zl H)) (j * 1) = some (nv (gn H j)) :=(qb5 (l :=zl H) (i :=j) hjz).trans (by rw [qgu H hj2])
   have d1:decide ((N.length + 1 + j + (0 + 1)) * 16 ≤ 140737488355328) = true :=decide_eq_true (by omega)
   have d2:decide (N.length + 1 + j + (0 + 1) ≤ 9223372036854775807) = true :=decide_eq_true (by omega)
   have d3 :=qg6 (l :=lnsP N.length N (H.take j)) (n :=N.length + 1 + j) (by rw [qg4,List.length_take];omega)
   have d4:decide (N.length + 1 + j = N.length + 1 + j) = true :=decide_eq_true rfl
   have q1 :=qbd (show gn H j < 1000 by have :=h.2 _ (qme H hj2);omega)
   have b :=mil (qh0 (gn H j)) rfl
   repeat ((first|refine qak (nthP gj) ?_|refine qag (qae hjz) ?_|refine qaf (qae hjz) ?_|refine pkT (qae hjz) ?_|refine qaa (qae hjz) ?_|refine qal (qae hjz) ?_|refine qam (qae hjz) ?_|refine pkF (qae hjz) ?_|refine qab (qae hjz) ?_|refine qag (qaj hjz) ?_|refine qaf (qaj hjz) ?_|refine pkT (qaj hjz) ?_|refine qaa (qaj hjz) ?_|refine qag d1 ?_|refine qaf d1 ?_|refine pkT d1 ?_|refine qaa d1 ?_|refine qag d2 ?_|refine qaf d2 ?_|refine pkT d2 ?_|refine qaa d2 ?_|refine qag d3 ?_|refine qaf d3 ?_|refine pkT d3 ?_|refine qaa d3 ?_|refine qal d3 ?_|refine qam d3 ?_|refine pkF d3 ?_|refine qab d3 ?_|refine qag d4 ?_|refine qaf d4 ?_|refine pkT d4 ?_|refine qaa d4 ?_|refine qag (stOk b) ?_|refine qaf (stOk b) ?_|refine pkT (stOk b) ?_|refine qaa (stOk b) ?_|refine qal (stOk b) ?_|refine qam (stOk b) ?_|refine pkF (stOk b) ?_|refine qab (stOk b) ?_|refine qac hC (q1) ?_|refine qad hS (by kernel_rfl) ?_);conv => whnf)
   exact ⟨j + 1,hj2,by omega,kle rfl,(by refine ⟨rfl,rfl,rfl,rfl,rfl,rfl,22,rfl,?_,?_⟩ <;> repeat' (first|exact trivial|exact rfl|exact wkr rfl|exact wko rfl|exact Nat.zero_le _|exact ⟨_,rfl,WkV.int hj1⟩|exact ⟨_,rfl,WkV.eq (qv7 (N.length + 1 + j + 1) 20 N.length N H hj2)⟩|exact qai lN|exact qai lH|exact qbg (qa1 _) (by decide)|exact kle rfl|exact bdq|exact mxI rfl|exact mxS rfl|apply And.intro))⟩
  ·refine qab (qbe (show ¬ j < (zl H).length by rw [qbs];exact hj2)) ?_
   conv => whnf
   refine .inl ?_
   conv => whnf
   have hjE:j = H.length :=by omega
   have eR2:AV.lst (stA (lnsP N.length N (H.take j))) (N.length + 1 + j) (.ch 20) = .lst (stA (lnsB N H)) (N.length + 1 + H.length) (.ch 20) :=by rw [hjE,List.take_length];rfl
   refine qax hE hS (A :=Nat) [] (fun i => [(3,.lst (stA (lnsB N H)) (N.length + 1 + H.length) (.ch 20)),(7,.str (ouB (lnsB N H) i)),(8,nv (ckN (lnsB N H) i)),(9,nv i)]) (fun _ => []) (fun _ => []) (fun i => i ≤ N.length + 1 + H.length) (fun i => N.length + 1 + H.length - i) 0 (kle rfl) rfl (by refine ⟨rfl,rfl,rfl,rfl,rfl,rfl,22,rfl,?_,?_⟩ <;> repeat' (first|exact trivial|exact rfl|exact wkr rfl|exact wko rfl|exact Nat.zero_le _|exact ⟨_,rfl,WkV.eq eR2⟩|exact qai lN|exact qai lH|exact qbg (qa1 _) (by decide)|exact kle rfl|exact bdq|exact mxI rfl|exact mxS rfl|apply And.intro)) (Nat.zero_le _) ?_
   intro i hi K hK
   obtain rfl:K = 22 :=hK
   conv => whnf
   by_cases hi2:i < N.length + 1 + H.length
   ·have hi1:IntKind.i64.wrap (Int.ofNat i + 1) = Int.ofNat (i + 1) :=qaz (m :=i + 1) (by omega)
    have hs :=@qff N H i
    have gr :=qa9 (l :=lnsB N H) (i :=i) (by rw [qcn];exact hi2)
    have hw :=@qf3 N H i (by omega)
    repeat ((first|refine qag (qae hi2) ?_|refine qaf (qae hi2) ?_|refine pkT (qae hi2) ?_|refine qaa (qae hi2) ?_|refine qal (qae hi2) ?_|refine qam (qae hi2) ?_|refine pkF (qae hi2) ?_|refine qab (qae hi2) ?_|refine qad hS (by kernel_rfl) ?_);conv => whnf)
    refine qax hE hS (A :=Nat) [3,7,9] (fun k => [(8,nv (ckN (lnsB N H) i + ckL (gB (lnsB N H) i) i k)),(10,nv k)]) (fun _ => []) (fun _ => []) (fun k => k ≤ (gB (lnsB N H) i).length) (fun k => (gB (lnsB N H) i).length - k) 0 (kle rfl) rfl (by refine ⟨rfl,rfl,rfl,rfl,rfl,rfl,22,rfl,?_,?_⟩ <;> repeat' (first|exact trivial|exact rfl|exact wkr rfl|exact wko rfl|exact Nat.zero_le _|exact qai lN|exact qai lH|exact qbg (qa1 _) (by decide)|exact kle rfl|exact bdq|exact mxI rfl|exact mxS rfl|apply And.intro)) (Nat.zero_le _) ?_
    intro k hk K hK
    obtain rfl:K = 22 :=hK
    conv => whnf
    by_cases hk2:k < (gB (lnsB N H) i).length
    ·have hk1:IntKind.i64.wrap (Int.ofNat k + 1) = Int.ofNat (k + 1) :=qaz (m :=k + 1) (by omega)
     have hc :=qf4 (s :=gB (lnsB N H) i) (i :=i) (k :=k) (by omega) (by omega)
     have hb:((gB (lnsB N H) i).getD k 0).toNat ≤ 256 :=Nat.le_of_lt (UInt8.toNat_lt _)
     have ew:_ = Int.ofNat (ckN (lnsB N H) i + ckL (gB (lnsB N H) i) i (k + 1)) :=(qe1 (c :=ckN (lnsB N H) i + ckL (gB (lnsB N H) i) i k) (by omega) hb (show k ≤ 16 by omega) (show i < 1000 by omega)).trans (by rw [ckL,Nat.add_assoc])
     repeat ((first|refine qak (nthP gr) ?_|refine qak (qco hk2) ?_|refine qag (qaj hi2) ?_|refine qaf (qaj hi2) ?_|refine pkT (qaj hi2) ?_|refine qaa (qaj hi2) ?_|refine qag (qae hk2) ?_|refine qaf (qae hk2) ?_|refine pkT (qae hk2) ?_|refine qaa (qae hk2) ?_|refine qal (qae hk2) ?_|refine qam (qae hk2) ?_|refine pkF (qae hk2) ?_|refine qab (qae hk2) ?_|refine qag (qaj hk2) ?_|refine qaf (qaj hk2) ?_|refine pkT (qaj hk2) ?_|refine qaa (qaj hk2) ?_|refine qad hS (by kernel_rfl) ?_);conv => whnf)
     exact ⟨k + 1,hk2,by omega,Nat.le_refl _,(by refine ⟨rfl,rfl,rfl,rfl,rfl,rfl,22,rfl,?_,?_⟩ <;> repeat' (first|exact trivial|exact rfl|exact wkr rfl|exact wko rfl|exact Nat.zero_le _|exact ⟨_,rfl,WkV.int hk1⟩|exact ⟨_,rfl,WkV.int ew⟩|exact qai lN|exact qai lH|exact qbg (qa1 _) (by decide)|exact kle rfl|exact bdq|exact mxI rfl|exact mxS rfl|apply And.intro))⟩
    ·have hkE:k = (gB (lnsB N H) i).length :=by omega
     have o1 :=@qb9 N H i
     have o3 :=qa8 o1 hs
     have o4 :=qa8 o3 (Nat.le_refl ([10]:List UInt8).length)
     have s3 :=Nat.le_trans o3 (show i * 17 + 16 ≤ 1000000 by omega)
     have s4 :=Nat.le_trans o4 (show i * 17 + 16 + 1 ≤ 1000000 by omega)
     repeat ((first|refine qak (nthP gr) ?_|refine qag (qaj hi2) ?_|refine qaf (qaj hi2) ?_|refine pkT (qaj hi2) ?_|refine qaa (qaj hi2) ?_|refine qad hS (by kernel_rfl) ?_);conv => whnf)
     refine qab (qbe hk2) ?_
     conv => whnf
     refine .inl ?_
     conv => whnf
     repeat ((first|refine qak (nthP gr) ?_|refine qag (qaj hi2) ?_|refine qaf (qaj hi2) ?_|refine pkT (qaj hi2) ?_|refine qaa (qaj hi2) ?_|refine qag (stOk s3) ?_|refine qaf (stOk s3) ?_|refine pkT (stOk s3) ?_|refine qaa (stOk s3) ?_|refine qal (stOk s3) ?_|refine qam (stOk s3) ?_|refine pkF (stOk s3) ?_|refine qab (stOk s3) ?_|refine qag (stOk s4) ?_|refine qaf (stOk s4) ?_|refine pkT (stOk s4) ?_|refine qaa (stOk s4) ?_|refine qal (stOk s4) ?_|refine qam (stOk s4) ?_|refine pkF (stOk s4) ?_|refine qab (stOk s4) ?_|refine qad hS (by kernel_rfl) ?_);conv => whnf)
     exact ⟨i + 1,hi2,by omega,Nat.le_refl _,(by refine ⟨rfl,rfl,rfl,rfl,rfl,rfl,22,rfl,?_,?_⟩ <;> repeat' (first|exact trivial|exact rfl|exact wkr rfl|exact wko rfl|exact Nat.zero_le _|exact ⟨_,rfl,WkV.int hi1⟩|exact ⟨_,rfl,WkV.int (show Int.ofNat (ckN (lnsB N H) i + ckL (gB (lnsB N H) i) i k) = Int.ofNat (ckN (lnsB N H) (i + 1)) by rw [ckN,hkE])⟩|exact ⟨_,rfl,WkV.eq (congrArg AV.str (qtd (lnsB N H) i))⟩|exact qai lN|exact qai lH|exact qbg (qa1 _) (by decide)|exact kle rfl|exact bdq|exact mxI rfl|exact mxS rfl|apply And.intro))⟩
   ·have hiE2:i = (lnsB N H).length :=by rw [qcn];omega
    have t :=qgn (ckN (lnsB N H) i)
    have hm :=Nat.mod_lt (ckN (lnsB N H) i) (show 0 < 127 by decide)
    have p1 :=qej t.1 (by omega)
    have p2 :=qej t.2.1 (by omega)
    have p3 :=qej t.2.2 (by omega)
    have o1 :=@qb9 N H i
    have o2:(ouB (lnsB N H) i ++ [101,110,100,32]).length ≤ 30000 :=by rw [List.length_append];show _ + 4 ≤ _;omega
    have o3 :=qa8 o2 (qbi (ckN (lnsB N H) i % 127 / 100))
    have o4 :=qa8 o3 (qbi (ckN (lnsB N H) i % 127 / 10 % 10))
    have o5 :=qa8 o4 (qbi (ckN (lnsB N H) i % 127 % 10))
    have o6 :=qa8 o5 (Nat.le_refl ([10]:List UInt8).length)
    refine qab (qbe hi2) ?_
    conv => whnf
    refine .inl ?_
    conv => whnf
    repeat ((first|refine qag (stOk (mil o2 rfl)) ?_|refine qaf (stOk (mil o2 rfl)) ?_|refine pkT (stOk (mil o2 rfl)) ?_|refine qaa (stOk (mil o2 rfl)) ?_|refine qal (stOk (mil o2 rfl)) ?_|refine qam (stOk (mil o2 rfl)) ?_|refine pkF (stOk (mil o2 rfl)) ?_|refine qab (stOk (mil o2 rfl)) ?_|refine qag (stOk (mil o3 rfl)) ?_|refine qaf (stOk (mil o3 rfl)) ?_|refine pkT (stOk (mil o3 rfl)) ?_|refine qaa (stOk (mil o3 rfl)) ?_|refine qal (stOk (mil o3 rfl)) ?_|refine qam (stOk (mil o3 rfl)) ?_|refine pkF (stOk (mil o3 rfl)) ?_|refine qab (stOk (mil o3 rfl)) ?_|refine qag (stOk (mil o4 rfl)) ?_|refine qaf (stOk (mil o4 rfl)) ?_|refine pkT (stOk (mil o4 rfl)) ?_|refine qaa (stOk (mil o4 rfl)) ?_|refine qal (stOk (mil o4 rfl)) ?_|refine qam (stOk (mil o4 rfl)) ?_|refine pkF (stOk (mil o4 rfl)) ?_|refine qab (stOk (mil o4 rfl)) ?_|refine qag (stOk (mil o5 rfl)) ?_|refine qaf (stOk (mil o5 rfl)) ?_|refine pkT (stOk (mil o5 rfl)) ?_|refine qaa (stOk (mil o5 rfl)) ?_|refine qal (stOk (mil o5 rfl)) ?_|refine qam (stOk (mil o5 rfl)) ?_|refine pkF (stOk (mil o5 rfl)) ?_|refine qab (stOk (mil o5 rfl)) ?_|refine qag (stOk (mil o6 rfl)) ?_|refine qaf (stOk (mil o6 rfl)) ?_|refine pkT (stOk (mil o6 rfl)) ?_|refine qaa (stOk (mil o6 rfl)) ?_|refine qal (stOk (mil o6 rfl)) ?_|refine qam (stOk (mil o6 rfl)) ?_|refine pkF (stOk (mil o6 rfl)) ?_|refine qab (stOk (mil o6 rfl)) ?_|refine qac hC (p1) ?_|refine qac hC (p2) ?_|refine qac hC (p3) ?_|refine qad hS (by kernel_rfl) ?_);conv => whnf)
    exact ⟨_,rfl,wk_s (by unfold prtB finB;rw [← hiE2])⟩
theorem qs1 {N:List Lk} {H:List Nat} (h:okT N H) (hN:N.length ≤ 400) (hH0:H = []) (h1:1 ≤ N.length):Pure prog 45 [.agg [nkA N,.nils]] (.str (prtB N H)) :=by
 have hH:H.length ≤ 400 :=by rw [hH0];exact Nat.zero_le _
 have pN :=qbd (n :=N.length) (by omega)
 have f1 :=mil (qgg N.length) rfl
 have lN :=qa5 (cL N)
 have h0 :=h.1 (gN N 0) (qi3 N h1)
 have q1 :=qbd (show (gN N 0).1 < 1000 by omega)
 have q2 :=qbd (show (gN N 0).2.1 < 1000 by omega)
 have q3 :=qbd (show (gN N 0).2.2 < 1000 by omega)
 have b :=qm5 (gN N 0)
 have eR0 :=qtm 2 20 N h1
 refine qas hE rfl (by repeat' first|exact trivial|assumption|exact qah _|exact fun _ h => nomatch h|apply And.intro) (by repeat' first|exact trivial|assumption|exact qah _|exact fun _ h => nomatch h|apply And.intro) fun S q pc hS hq hC hE => ?_
 conv => whnf
 repeat ((first|refine qag (stOk f1) ?_|refine qaf (stOk f1) ?_|refine pkT (stOk f1) ?_|refine qaa (stOk f1) ?_|refine qal (stOk f1) ?_|refine qam (stOk f1) ?_|refine pkF (stOk f1) ?_|refine qab (stOk f1) ?_|refine qac hC (pN) ?_|refine qad hS (by kernel_rfl) ?_);conv => whnf)
 refine qan hE hS ?_
 conv => whnf
 repeat ((first|refine qak (takP (qfc N h1)) ?_|refine qag (qae h1) ?_|refine qaf (qae h1) ?_|refine pkT (qae h1) ?_|refine qaa (qae h1) ?_|refine qal (qae h1) ?_|refine qam (qae h1) ?_|refine pkF (qae h1) ?_|refine qab (qae h1) ?_|refine qag (qaj h1) ?_|refine qaf (qaj h1) ?_|refine pkT (qaj h1) ?_|refine qaa (qaj h1) ?_|refine qag (stOk b.1) ?_|refine qaf (stOk b.1) ?_|refine pkT (stOk b.1) ?_|refine qaa (stOk b.1) ?_|refine qal (stOk b.1) ?_|refine qam (stOk b.1) ?_|refine pkF (stOk b.1) ?_|refine qab (stOk b.1) ?_|refine qag (stOk b.2.1) ?_|refine qaf (stOk b.2.1) ?_|refine pkT (stOk b.2.1) ?_|refine qaa (stOk b.2.1) ?_|refine qal (stOk b.2.1) ?_|refine qam (stOk b.2.1) ?_|refine pkF (stOk b.2.1) ?_|refine qab (stOk b.2.1) ?_|refine qag (stOk b.2.2.1) ?_|refine qaf (stOk b.2.2.1) ?_|refine pkT (stOk b.2.2.1) ?_|refine qaa (stOk b.2.2.1) ?_|refine qal (stOk b.2.2.1) ?_|refine qam (stOk b.2.2.1) ?_|refine pkF (stOk b.2.2.1) ?_|refine qab (stOk b.2.2.1) ?_|refine qag (stOk b.2.2.2.1) ?_|refine qaf (stOk b.2.2.2.1) ?_|refine pkT (stOk b.2.2.2.1) ?_|refine qaa (stOk b.2.2.2.1) ?_|refine qal (stOk b.2.2.2.1) ?_|refine qam (stOk b.2.2.2.1) ?_|refine pkF (stOk b.2.2.2.1) ?_|refine qab (stOk b.2.2.2.1) ?_|refine qag (stOk b.2.2.2.2) ?_|refine qaf (stOk b.2.2.2.2) ?_|refine pkT (stOk b.2.2.2.2) ?_|refine qaa (stOk b.2.2.2.2) ?_|refine qal (stOk b.2.2.2.2) ?_|refine qam (stOk b.2.2.2.2) ?_|refine pkF (stOk b.2.2.2.2) ?_|refine qab (stOk b.2.2.2.2) ?_|refine qac hC (pN) ?_|refine qac hC (q1) ?_|refine qac hC (q2) ?_|refine qac hC (q3) ?_|refine qad hS (by kernel_rfl) ?_);conv => whnf)
 refine qax hE hS (A :=Nat) [1] (fun i => [(3,.lst (stA (lnsP N.length (N.take i) [])) (i + 1) (.ch 20)),(4,nv i)]) (fun i => [(20,.chain (i + 1) 1 9)]) (fun _ => []) (fun i => 1 ≤ i ∧ i ≤ N.length) (fun i => N.length - i) 1 (kle rfl) rfl (by refine ⟨rfl,rfl,rfl,rfl,rfl,rfl,22,rfl,?_,?_⟩ <;> repeat' (first|exact trivial|exact rfl|exact wkr rfl|exact wko rfl|exact Nat.zero_le _|exact ⟨_,rfl,WkV.int (qaz (m :=1) (by decide))⟩|exact ⟨_,rfl,WkV.eq eR0⟩|exact qai lN|exact qbg (qa1 _) (by decide)|exact kle rfl|exact bdq|exact mxI rfl|exact mxS rfl|apply And.intro)) ⟨Nat.le_refl _,h1⟩ ?_
 intro i ⟨hi,hiN⟩ K hK
 obtain rfl:K = 22 :=hK
 conv => whnf
 by_cases hi2:i < N.length
 ·have hi1:IntKind.i64.wrap (Int.ofNat i + 1) = Int.ofNat (i + 1) :=qaz (m :=i + 1) (by omega)
  have d1:decide ((i + 1 + (0 + 1)) * 16 ≤ 140737488355328) = true :=decide_eq_true (by omega)
  have d2:decide (i + 1 + (0 + 1) ≤ 9223372036854775807) = true :=decide_eq_true (by omega)
  have d3 :=qg6 (l :=lnsP N.length (N.take i) []) (n :=i + 1) (by rw [qg4,List.length_take];simp only [List.length_nil];omega)
  have d4:decide (i + 1 = i + 1) = true :=decide_eq_true rfl
  have h0 :=h.1 (gN N i) (qi3 N hi2)
  have q1 :=qbd (show (gN N i).1 < 1000 by omega)
  have q2 :=qbd (show (gN N i).2.1 < 1000 by omega)
  have q3 :=qbd (show (gN N i).2.2 < 1000 by omega)
  have b :=qm5 (gN N i)
  repeat ((first|refine qak (takP (qfc N hi2)) ?_|refine qag (qae hi2) ?_|refine qaf (qae hi2) ?_|refine pkT (qae hi2) ?_|refine qaa (qae hi2) ?_|refine qal (qae hi2) ?_|refine qam (qae hi2) ?_|refine pkF (qae hi2) ?_|refine qab (qae hi2) ?_|refine qag (qaj hi2) ?_|refine qaf (qaj hi2) ?_|refine pkT (qaj hi2) ?_|refine qaa (qaj hi2) ?_|refine qag d1 ?_|refine qaf d1 ?_|refine pkT d1 ?_|refine qaa d1 ?_|refine qag d2 ?_|refine qaf d2 ?_|refine pkT d2 ?_|refine qaa d2 ?_|refine qag d3 ?_|refine qaf d3 ?_|refine pkT d3 ?_|refine qaa d3 ?_|refine qal d3 ?_|refine qam d3 ?_|refine pkF d3 ?_|refine qab d3 ?_|refine qag d4 ?_|refine qaf d4 ?_|refine pkT d4 ?_|refine qaa d4 ?_|refine qag (stOk b.1) ?_|refine qaf (stOk b.1) ?_|refine pkT (stOk b.1) ?_|refine qaa (stOk b.1) ?_|refine qal (stOk b.1) ?_|refine qam (stOk b.1) ?_|refine pkF (stOk b.1) ?_|refine qab (stOk b.1) ?_|refine qag (stOk b.2.1) ?_|refine qaf (stOk b.2.1) ?_|refine pkT (stOk b.2.1) ?_|refine qaa (stOk b.2.1) ?_|refine qal (stOk b.2.1) ?_|refine qam (stOk b.2.1) ?_|refine pkF (stOk b.2.1) ?_|refine qab (stOk b.2.1) ?_|refine qag (stOk b.2.2.1) ?_|refine qaf (stOk b.2.2.1) ?_|refine pkT (stOk b.2.2.1) ?_|refine qaa (stOk b.2.2.1) ?_|refine qal (stOk b.2.2.1) ?_|refine qam (stOk b.2.2.1) ?_|refine pkF (stOk b.2.2.1) ?_|refine qab (stOk b.2.2.1) ?_|refine qag (stOk b.2.2.2.1) ?_|refine qaf (stOk b.2.2.2.1) ?_|refine pkT (stOk b.2.2.2.1) ?_|refine qaa (stOk b.2.2.2.1) ?_|refine qal (stOk b.2.2.2.1) ?_|refine qam (stOk b.2.2.2.1) ?_|refine pkF (stOk b.2.2.2.1) ?_|refine qab (stOk b.2.2.2.1) ?_|refine qag (stOk b.2.2.2.2) ?_|refine qaf (stOk b.2.2.2.2) ?_|refine pkT (stOk b.2.2.2.2) ?_|refine qaa (stOk b.2.2.2.2) ?_|refine qal (stOk b.2.2.2.2) ?_|refine qam (stOk b.2.2.2.2) ?_|refine pkF (stOk b.2.2.2.2) ?_|refine qab (stOk b.2.2.2.2) ?_|refine qac hC (q1) ?_|refine qac hC (q2) ?_|refine qac hC (q3) ?_|refine qad hS (by kernel_rfl) ?_);conv => whnf)
  exact ⟨i + 1,⟨by omega,hi2⟩,by omega,kle rfl,(by refine ⟨rfl,rfl,rfl,rfl,rfl,rfl,22,rfl,?_,?_⟩ <;> repeat' (first|exact trivial|exact rfl|exact wkr rfl|exact wko rfl|exact Nat.zero_le _|exact ⟨_,rfl,WkV.int hi1⟩|exact ⟨_,rfl,WkV.eq (qtm (i + 1 + 1) 20 N hi2)⟩|exact qai lN|exact qbg (qa1 _) (by decide)|exact kle rfl|exact bdq|exact mxI rfl|exact mxS rfl|apply And.intro))⟩
 ·refine qab (qbe hi2) ?_
  conv => whnf
  refine .inl ?_
  conv => whnf
  have hiE:i = N.length :=by omega
  have eR2:AV.lst (stA (lnsP N.length (N.take i) [])) (i + 1) (.ch 20) = .lst (stA (lnsB N H)) (N.length + 1 + H.length) (.ch 20) :=by rw [hiE,List.take_length,hH0];rfl
  refine qan hE hS ?_
  conv => whnf
  repeat ((first|refine qad hS (by kernel_rfl) ?_);conv => whnf)
  refine qax hE hS (A :=Nat) [] (fun i => [(3,.lst (stA (lnsB N H)) (N.length + 1 + H.length) (.ch 20)),(7,.str (ouB (lnsB N H) i)),(8,nv (ckN (lnsB N H) i)),(9,nv i)]) (fun _ => []) (fun _ => []) (fun i => i ≤ N.length + 1 + H.length) (fun i => N.length + 1 + H.length - i) 0 (kle rfl) rfl (by refine ⟨rfl,rfl,rfl,rfl,rfl,rfl,22,rfl,?_,?_⟩ <;> repeat' (first|exact trivial|exact rfl|exact wkr rfl|exact wko rfl|exact Nat.zero_le _|exact ⟨_,rfl,WkV.eq eR2⟩|exact qai lN|exact qbg (qa1 _) (by decide)|exact kle rfl|exact bdq|exact mxI rfl|exact mxS rfl|apply And.intro)) (Nat.zero_le _) ?_
  intro i hi K hK
  obtain rfl:K = 22 :=hK
  conv => whnf
  by_cases hi2:i < N.length + 1 + H.length
  ·have hi1:IntKind.i64.wrap (Int.ofNat i + 1) = Int.ofNat (i + 1) :=qaz (m :=i + 1) (by omega)
   have hs :=@qff N H i
   have gr :=qa9 (l :=lnsB N H) (i :=i) (by rw [qcn];exact hi2)
   have hw :=@qf3 N H i (by omega)
   repeat ((first|refine qag (qae hi2) ?_|refine qaf (qae hi2) ?_|refine pkT (qae hi2) ?_|refine qaa (qae hi2) ?_|refine qal (qae hi2) ?_|refine qam (qae hi2) ?_|refine pkF (qae hi2) ?_|refine qab (qae hi2) ?_|refine qad hS (by kernel_rfl) ?_);conv => whnf)
   refine qax hE hS (A :=Nat) [3,7,9] (fun k => [(8,nv (ckN (lnsB N H) i + ckL (gB (lnsB N H) i) i k)),(10,nv k)]) (fun _ => []) (fun _ => []) (fun k => k ≤ (gB (lnsB N H) i).length) (fun k => (gB (lnsB N H) i).length - k) 0 (kle rfl) rfl (by refine ⟨rfl,rfl,rfl,rfl,rfl,rfl,22,rfl,?_,?_⟩ <;> repeat' (first|exact trivial|exact rfl|exact wkr rfl|exact wko rfl|exact Nat.zero_le _|exact qai lN|exact qbg (qa1 _) (by decide)|exact kle rfl|exact bdq|exact mxI rfl|exact mxS rfl|apply And.intro)) (Nat.zero_le _) ?_
   intro k hk K hK
   obtain rfl:K = 22 :=hK
   conv => whnf
   by_cases hk2:k < (gB (lnsB N H) i).length
   ·have hk1:IntKind.i64.wrap (Int.ofNat k + 1) = Int.ofNat (k + 1) :=qaz (m :=k + 1) (by omega)
    have hc :=qf4 (s :=gB (lnsB N H) i) (i :=i) (k :=k) (by omega) (by omega)
    have hb:((gB (lnsB N H) i).getD k 0).toNat ≤ 256 :=Nat.le_of_lt (UInt8.toNat_lt _)
    have ew:_ = Int.ofNat (ckN (lnsB N H) i + ckL (gB (lnsB N H) i) i (k + 1)) :=(qe1 (c :=ckN (lnsB N H) i + ckL (gB (lnsB N H) i) i k) (by omega) hb (show k ≤ 16 by omega) (show i < 1000 by omega)).trans (by rw [ckL,Nat.add_assoc])
    repeat ((first|refine qak (nthP gr) ?_|refine qak (qco hk2) ?_|refine qag (qaj hi2) ?_|refine qaf (qaj hi2) ?_|refine pkT (qaj hi2) ?_|refine qaa (qaj hi2) ?_|refine qag (qae hk2) ?_|refine qaf (qae hk2) ?_|refine pkT (qae hk2) ?_|refine qaa (qae hk2) ?_|refine qal (qae hk2) ?_|refine qam (qae hk2) ?_|refine pkF (qae hk2) ?_|refine qab (qae hk2) ?_|refine qag (qaj hk2) ?_|refine qaf (qaj hk2) ?_|refine pkT (qaj hk2) ?_|refine qaa (qaj hk2) ?_|refine qad hS (by kernel_rfl) ?_);conv => whnf)
    exact ⟨k + 1,hk2,by omega,Nat.le_refl _,(by refine ⟨rfl,rfl,rfl,rfl,rfl,rfl,22,rfl,?_,?_⟩ <;> repeat' (first|exact trivial|exact rfl|exact wkr rfl|exact wko rfl|exact Nat.zero_le _|exact ⟨_,rfl,WkV.int hk1⟩|exact ⟨_,rfl,WkV.int ew⟩|exact qai lN|exact qbg (qa1 _) (by decide)|exact kle rfl|exact bdq|exact mxI rfl|exact mxS rfl|apply And.intro))⟩
   ·have hkE:k = (gB (lnsB N H) i).length :=by omega
    have o1 :=@qb9 N H i
    have o3 :=qa8 o1 hs
    have o4 :=qa8 o3 (Nat.le_refl ([10]:List UInt8).length)
    have s3 :=Nat.le_trans o3 (show i * 17 + 16 ≤ 1000000 by omega)
    have s4 :=Nat.le_trans o4 (show i * 17 + 16 + 1 ≤ 1000000 by omega)
    repeat ((first|refine qak (nthP gr) ?_|refine qag (qaj hi2) ?_|refine qaf (qaj hi2) ?_|refine pkT (qaj hi2) ?_|refine qaa (qaj hi2) ?_|refine qad hS (by kernel_rfl) ?_);conv => whnf)
    refine qab (qbe hk2) ?_
    conv => whnf
    refine .inl ?_
    conv => whnf
    repeat ((first|refine qak (nthP gr) ?_|refine qag (qaj hi2) ?_|refine qaf (qaj hi2) ?_|refine pkT (qaj hi2) ?_|refine qaa (qaj hi2) ?_|refine qag (stOk s3) ?_|refine qaf (stOk s3) ?_|refine pkT (stOk s3) ?_|refine qaa (stOk s3) ?_|refine qal (stOk s3) ?_|refine qam (stOk s3) ?_|refine pkF (stOk s3) ?_|refine qab (stOk s3) ?_|refine qag (stOk s4) ?_|refine qaf (stOk s4) ?_|refine pkT (stOk s4) ?_|refine qaa (stOk s4) ?_|refine qal (stOk s4) ?_|refine qam (stOk s4) ?_|refine pkF (stOk s4) ?_|refine qab (stOk s4) ?_|refine qad hS (by kernel_rfl) ?_);conv => whnf)
    exact ⟨i + 1,hi2,by omega,Nat.le_refl _,(by refine ⟨rfl,rfl,rfl,rfl,rfl,rfl,22,rfl,?_,?_⟩ <;> repeat' (first|exact trivial|exact rfl|exact wkr rfl|exact wko rfl|exact Nat.zero_le _|exact ⟨_,rfl,WkV.int hi1⟩|exact ⟨_,rfl,WkV.int (show Int.ofNat (ckN (lnsB N H) i + ckL (gB (lnsB N H) i) i k) = Int.ofNat (ckN (lnsB N H) (i + 1)) by rw [ckN,hkE])⟩|exact ⟨_,rfl,WkV.eq (congrArg AV.str (qtd (lnsB N H) i))⟩|exact qai lN|exact qbg (qa1 _) (by decide)|exact kle rfl|exact bdq|exact mxI rfl|exact mxS rfl|apply And.intro))⟩
  ·have hiE2:i = (lnsB N H).length :=by rw [qcn];omega
   have t :=qgn (ckN (lnsB N H) i)
   have hm :=Nat.mod_lt (ckN (lnsB N H) i) (show 0 < 127 by decide)
   have p1 :=qej t.1 (by omega)
   have p2 :=qej t.2.1 (by omega)
   have p3 :=qej t.2.2 (by omega)
   have o1 :=@qb9 N H i
   have o2:(ouB (lnsB N H) i ++ [101,110,100,32]).length ≤ 30000 :=by rw [List.length_append];show _ + 4 ≤ _;omega
   have o3 :=qa8 o2 (qbi (ckN (lnsB N H) i % 127 / 100))
   have o4 :=qa8 o3 (qbi (ckN (lnsB N H) i % 127 / 10 % 10))
   have o5 :=qa8 o4 (qbi (ckN (lnsB N H) i % 127 % 10))
   have o6 :=qa8 o5 (Nat.le_refl ([10]:List UInt8).length)
   refine qab (qbe hi2) ?_
   conv => whnf
   refine .inl ?_
   conv => whnf
   repeat ((first|refine qag (stOk (mil o2 rfl)) ?_|refine qaf (stOk (mil o2 rfl)) ?_|refine pkT (stOk (mil o2 rfl)) ?_|refine qaa (stOk (mil o2 rfl)) ?_|refine qal (stOk (mil o2 rfl)) ?_|refine qam (stOk (mil o2 rfl)) ?_|refine pkF (stOk (mil o2 rfl)) ?_|refine qab (stOk (mil o2 rfl)) ?_|refine qag (stOk (mil o3 rfl)) ?_|refine qaf (stOk (mil o3 rfl)) ?_|refine pkT (stOk (mil o3 rfl)) ?_|refine qaa (stOk (mil o3 rfl)) ?_|refine qal (stOk (mil o3 rfl)) ?_|refine qam (stOk (mil o3 rfl)) ?_|refine pkF (stOk (mil o3 rfl)) ?_|refine qab (stOk (mil o3 rfl)) ?_|refine qag (stOk (mil o4 rfl)) ?_|refine qaf (stOk (mil o4 rfl)) ?_|refine pkT (stOk (mil o4 rfl)) ?_|refine qaa (stOk (mil o4 rfl)) ?_|refine qal (stOk (mil o4 rfl)) ?_|refine qam (stOk (mil o4 rfl)) ?_|refine pkF (stOk (mil o4 rfl)) ?_|refine qab (stOk (mil o4 rfl)) ?_|refine qag (stOk (mil o5 rfl)) ?_|refine qaf (stOk (mil o5 rfl)) ?_|refine pkT (stOk (mil o5 rfl)) ?_|refine qaa (stOk (mil o5 rfl)) ?_|refine qal (stOk (mil o5 rfl)) ?_|refine qam (stOk (mil o5 rfl)) ?_|refine pkF (stOk (mil o5 rfl)) ?_|refine qab (stOk (mil o5 rfl)) ?_|refine qag (stOk (mil o6 rfl)) ?_|refine qaf (stOk (mil o6 rfl)) ?_|refine pkT (stOk (mil o6 rfl)) ?_|refine qaa (stOk (mil o6 rfl)) ?_|refine qal (stOk (mil o6 rfl)) ?_|refine qam (stOk (mil o6 rfl)) ?_|refine pkF (stOk (mil o6 rfl)) ?_|refine qab (stOk (mil o6 rfl)) ?_|refine qac hC (p1) ?_|refine qac hC (p2) ?_|refine qac hC (p3) ?_|refine qad hS (by kernel_rfl) ?_);conv => whnf)
   exact ⟨_,rfl,wk_s (by unfold prtB finB;rw [← hiE2])⟩
theorem qs0 {N:List Lk} {H:List Nat} (h:okT N H) (hN0:N = []) (hH:H.length ≤ 400) (h1:1 ≤ H.length):Pure prog 45 [.agg [.nils,nl (zl H)]] (.str (prtB N H)) :=by
 have lH :=qav (zl H)
 have hN:N.length ≤ 400 :=by rw [hN0];exact Nat.zero_le _
 have pN :=qbd (n :=0) (by decide)
 have f1 :=mil (qgg 0) rfl
 have hjz:0 < (zl H).length :=by rw [qbs];exact h1
 have gj:nth (ivs (zl H)) (0 * 1) = some (nv (gn H 0)) :=(qb5 (l :=zl H) (i :=0) hjz).trans (by rw [qgu H h1])
 have q1 :=qbd (show gn H 0 < 1000 by have :=h.2 _ (qme H h1);omega)
 have b :=mil (qh0 (gn H 0)) rfl
 have eR:AV.lst (stA (lnsP 0 [] (H.take 0)) ++ [.str (lnH (gn H 0))]) 2 (.ch 1) = .lst (stA (lnsP N.length N (H.take 1))) (N.length + 1 + 1) (.ch 1) :=by rw [qv7 2 1 0 [] H h1,hN0];rfl
 have eC:AObj.chain 2 1 9 = .chain (N.length + 1 + 1) 1 9 :=by rw [hN0];rfl
 refine qas hE rfl (by repeat' first|exact trivial|assumption|exact qah _|exact fun _ h => nomatch h|apply And.intro) (by repeat' first|exact trivial|assumption|exact qah _|exact fun _ h => nomatch h|apply And.intro) fun S q pc hS hq hC hE => ?_
 conv => whnf
 repeat ((first|refine qag (stOk f1) ?_|refine qaf (stOk f1) ?_|refine pkT (stOk f1) ?_|refine qaa (stOk f1) ?_|refine qal (stOk f1) ?_|refine qam (stOk f1) ?_|refine pkF (stOk f1) ?_|refine qab (stOk f1) ?_|refine qac hC (pN) ?_|refine qad hS (by kernel_rfl) ?_);conv => whnf)
 refine qan hE hS ?_
 conv => whnf
 repeat ((first|refine qad hS (by kernel_rfl) ?_);conv => whnf)
 refine qan hE hS ?_
 conv => whnf
 repeat ((first|refine qak (nthP gj) ?_|refine qag (qae hjz) ?_|refine qaf (qae hjz) ?_|refine pkT (qae hjz) ?_|refine qaa (qae hjz) ?_|refine qal (qae hjz) ?_|refine qam (qae hjz) ?_|refine pkF (qae hjz) ?_|refine qab (qae hjz) ?_|refine qag (qaj hjz) ?_|refine qaf (qaj hjz) ?_|refine pkT (qaj hjz) ?_|refine qaa (qaj hjz) ?_|refine qag (stOk b) ?_|refine qaf (stOk b) ?_|refine pkT (stOk b) ?_|refine qaa (stOk b) ?_|refine qal (stOk b) ?_|refine qam (stOk b) ?_|refine pkF (stOk b) ?_|refine qab (stOk b) ?_|refine qac hC (q1) ?_|refine qad hS (by kernel_rfl) ?_);conv => whnf)
 refine qax hE hS (A :=Nat) [1] (fun j => [(3,.lst (stA (lnsP N.length N (H.take j))) (N.length + 1 + j) (.ch 1)),(6,nv j)]) (fun j => [(1,.chain (N.length + 1 + j) 1 9)]) (fun _ => []) (fun j => j ≤ H.length) (fun j => H.length - j) 1 (kle rfl) rfl (by refine ⟨rfl,rfl,rfl,rfl,rfl,rfl,2,rfl,?_,?_⟩ <;> repeat' (first|exact trivial|exact rfl|exact wkr rfl|exact wko rfl|exact Nat.zero_le _|exact ⟨_,rfl,WkV.int (qaz (m :=1) (by decide))⟩|exact ⟨_,rfl,WkV.eq eR⟩|exact eC|exact qai lH|exact qbg (qa1 _) (by decide)|exact kle rfl|exact bdq|exact mxI rfl|exact mxS rfl|apply And.intro)) h1 ?_
 intro j hj K hK
 obtain rfl:K = 2 :=hK
 conv => whnf
 by_cases hj2:j < H.length
 ·have hj1:IntKind.i64.wrap (Int.ofNat j + 1) = Int.ofNat (j + 1) :=qaz (m :=j + 1) (by omega)
  have hjz:j < (zl H).length :=by rw [qbs];exact hj2
  have gj:nth (ivs (zl H)) (j * 1) = some (nv (gn H j)) :=(qb5 (l :=zl H) (i :=j) hjz).trans (by rw [qgu H hj2])
  have d1:decide ((N.length + 1 + j + (0 + 1)) * 16 ≤ 140737488355328) = true :=decide_eq_true (by omega)
  have d2:decide (N.length + 1 + j + (0 + 1) ≤ 9223372036854775807) = true :=decide_eq_true (by omega)
  have d3 :=qg6 (l :=lnsP N.length N (H.take j)) (n :=N.length + 1 + j) (by rw [qg4,List.length_take];omega)
  have d4:decide (N.length + 1 + j = N.length + 1 + j) = true :=decide_eq_true rfl
  have q1 :=qbd (show gn H j < 1000 by have :=h.2 _ (qme H hj2);omega)
  have b :=mil (qh0 (gn H j)) rfl
  repeat ((first|refine qak (nthP gj) ?_|refine qag (qae hjz) ?_|refine qaf (qae hjz) ?_|refine pkT (qae hjz) ?_|refine qaa (qae hjz) ?_|refine qal (qae hjz) ?_|refine qam (qae hjz) ?_|refine pkF (qae hjz) ?_|refine qab (qae hjz) ?_|refine qag (qaj hjz) ?_|refine qaf (qaj hjz) ?_|refine pkT (qaj hjz) ?_|refine qaa (qaj hjz) ?_|refine qag d1 ?_|refine qaf d1 ?_|refine pkT d1 ?_|refine qaa d1 ?_|refine qag d2 ?_|refine qaf d2 ?_|refine pkT d2 ?_|refine qaa d2 ?_|refine qag d3 ?_|refine qaf d3 ?_|refine pkT d3 ?_|refine qaa d3 ?_|refine qal d3 ?_|refine qam d3 ?_|refine pkF d3 ?_|refine qab d3 ?_|refine qag d4 ?_|refine qaf d4 ?_|refine pkT d4 ?_|refine qaa d4 ?_|refine qag (stOk b) ?_|refine qaf (stOk b) ?_|refine pkT (stOk b) ?_|refine qaa (stOk b) ?_|refine qal (stOk b) ?_|refine qam (stOk b) ?_|refine pkF (stOk b) ?_|refine qab (stOk b) ?_|refine qac hC (q1) ?_|refine qad hS (by kernel_rfl) ?_);conv => whnf)
  exact ⟨j + 1,hj2,by omega,kle rfl,(by refine ⟨rfl,rfl,rfl,rfl,rfl,rfl,2,rfl,?_,?_⟩ <;> repeat' (first|exact trivial|exact rfl|exact wkr rfl|exact wko rfl|exact Nat.zero_le _|exact ⟨_,rfl,WkV.int hj1⟩|exact ⟨_,rfl,WkV.eq (qv7 (N.length + 1 + j + 1) 1 N.length N H hj2)⟩|exact qai lH|exact qbg (qa1 _) (by decide)|exact kle rfl|exact bdq|exact mxI rfl|exact mxS rfl|apply And.intro))⟩
 ·refine qab (qbe (show ¬ j < (zl H).length by rw [qbs];exact hj2)) ?_
  conv => whnf
  refine .inl ?_
  conv => whnf
  have hjE:j = H.length :=by omega
  have eR2:AV.lst (stA (lnsP N.length N (H.take j))) (N.length + 1 + j) (.ch 1) = .lst (stA (lnsB N H)) (N.length + 1 + H.length) (.ch 1) :=by rw [hjE,List.take_length];rfl
  refine qax hE hS (A :=Nat) [] (fun i => [(3,.lst (stA (lnsB N H)) (N.length + 1 + H.length) (.ch 1)),(7,.str (ouB (lnsB N H) i)),(8,nv (ckN (lnsB N H) i)),(9,nv i)]) (fun _ => []) (fun _ => []) (fun i => i ≤ N.length + 1 + H.length) (fun i => N.length + 1 + H.length - i) 0 (kle rfl) rfl (by refine ⟨rfl,rfl,rfl,rfl,rfl,rfl,2,rfl,?_,?_⟩ <;> repeat' (first|exact trivial|exact rfl|exact wkr rfl|exact wko rfl|exact Nat.zero_le _|exact ⟨_,rfl,WkV.eq eR2⟩|exact qai lH|exact qbg (qa1 _) (by decide)|exact kle rfl|exact bdq|exact mxI rfl|exact mxS rfl|apply And.intro)) (Nat.zero_le _) ?_
  intro i hi K hK
  obtain rfl:K = 2 :=hK
  conv => whnf
  by_cases hi2:i < N.length + 1 + H.length
  ·have hi1:IntKind.i64.wrap (Int.ofNat i + 1) = Int.ofNat (i + 1) :=qaz (m :=i + 1) (by omega)
   have hs :=@qff N H i
   have gr :=qa9 (l :=lnsB N H) (i :=i) (by rw [qcn];exact hi2)
   have hw :=@qf3 N H i (by omega)
   repeat ((first|refine qag (qae hi2) ?_|refine qaf (qae hi2) ?_|refine pkT (qae hi2) ?_|refine qaa (qae hi2) ?_|refine qal (qae hi2) ?_|refine qam (qae hi2) ?_|refine pkF (qae hi2) ?_|refine qab (qae hi2) ?_|refine qad hS (by kernel_rfl) ?_);conv => whnf)
   refine qax hE hS (A :=Nat) [3,7,9] (fun k => [(8,nv (ckN (lnsB N H) i + ckL (gB (lnsB N H) i) i k)),(10,nv k)]) (fun _ => []) (fun _ => []) (fun k => k ≤ (gB (lnsB N H) i).length) (fun k => (gB (lnsB N H) i).length - k) 0 (kle rfl) rfl (by refine ⟨rfl,rfl,rfl,rfl,rfl,rfl,2,rfl,?_,?_⟩ <;> repeat' (first|exact trivial|exact rfl|exact wkr rfl|exact wko rfl|exact Nat.zero_le _|exact qai lH|exact qbg (qa1 _) (by decide)|exact kle rfl|exact bdq|exact mxI rfl|exact mxS rfl|apply And.intro)) (Nat.zero_le _) ?_
   intro k hk K hK
   obtain rfl:K = 2 :=hK
   conv => whnf
   by_cases hk2:k < (gB (lnsB N H) i).length
   ·have hk1:IntKind.i64.wrap (Int.ofNat k + 1) = Int.ofNat (k + 1) :=qaz (m :=k + 1) (by omega)
    have hc :=qf4 (s :=gB (lnsB N H) i) (i :=i) (k :=k) (by omega) (by omega)
    have hb:((gB (lnsB N H) i).getD k 0).toNat ≤ 256 :=Nat.le_of_lt (UInt8.toNat_lt _)
    have ew:_ = Int.ofNat (ckN (lnsB N H) i + ckL (gB (lnsB N H) i) i (k + 1)) :=(qe1 (c :=ckN (lnsB N H) i + ckL (gB (lnsB N H) i) i k) (by omega) hb (show k ≤ 16 by omega) (show i < 1000 by omega)).trans (by rw [ckL,Nat.add_assoc])
    repeat ((first|refine qak (nthP gr) ?_|refine qak (qco hk2) ?_|refine qag (qaj hi2) ?_|refine qaf (qaj hi2) ?_|refine pkT (qaj hi2) ?_|refine qaa (qaj hi2) ?_|refine qag (qae hk2) ?_|refine qaf (qae hk2) ?_|refine pkT (qae hk2) ?_|refine qaa (qae hk2) ?_|refine qal (qae hk2) ?_|refine qam (qae hk2) ?_|refine pkF (qae hk2) ?_|refine qab (qae hk2) ?_|refine qag (qaj hk2) ?_|refine qaf (qaj hk2) ?_|refine pkT (qaj hk2) ?_|refine qaa (qaj hk2) ?_|refine qad hS (by kernel_rfl) ?_);conv => whnf)
    exact ⟨k + 1,hk2,by omega,Nat.le_refl _,(by refine ⟨rfl,rfl,rfl,rfl,rfl,rfl,2,rfl,?_,?_⟩ <;> repeat' (first|exact trivial|exact rfl|exact wkr rfl|exact wko rfl|exact Nat.zero_le _|exact ⟨_,rfl,WkV.int hk1⟩|exact ⟨_,rfl,WkV.int ew⟩|exact qai lH|exact qbg (qa1 _) (by decide)|exact kle rfl|exact bdq|exact mxI rfl|exact mxS rfl|apply And.intro))⟩
   ·have hkE:k = (gB (lnsB N H) i).length :=by omega
    have o1 :=@qb9 N H i
    have o3 :=qa8 o1 hs
    have o4 :=qa8 o3 (Nat.le_refl ([10]:List UInt8).length)
    have s3 :=Nat.le_trans o3 (show i * 17 + 16 ≤ 1000000 by omega)
    have s4 :=Nat.le_trans o4 (show i * 17 + 16 + 1 ≤ 1000000 by omega)
    repeat ((first|refine qak (nthP gr) ?_|refine qag (qaj hi2) ?_|refine qaf (qaj hi2) ?_|refine pkT (qaj hi2) ?_|refine qaa (qaj hi2) ?_|refine qad hS (by kernel_rfl) ?_);conv => whnf)
    refine qab (qbe hk2) ?_
    conv => whnf
    refine .inl ?_
    conv => whnf
    repeat ((first|refine qak (nthP gr) ?_|refine qag (qaj hi2) ?_|refine qaf (qaj hi2) ?_|refine pkT (qaj hi2) ?_|refine qaa (qaj hi2) ?_|refine qag (stOk s3) ?_|refine qaf (stOk s3) ?_|refine pkT (stOk s3) ?_|refine qaa (stOk s3) ?_|refine qal (stOk s3) ?_|refine qam (stOk s3) ?_|refine pkF (stOk s3) ?_|refine qab (stOk s3) ?_|refine qag (stOk s4) ?_|refine qaf (stOk s4) ?_|refine pkT (stOk s4) ?_|refine qaa (stOk s4) ?_|refine qal (stOk s4) ?_|refine qam (stOk s4) ?_|refine pkF (stOk s4) ?_|refine qab (stOk s4) ?_|refine qad hS (by kernel_rfl) ?_);conv => whnf)
    exact ⟨i + 1,hi2,by omega,Nat.le_refl _,(by refine ⟨rfl,rfl,rfl,rfl,rfl,rfl,2,rfl,?_,?_⟩ <;> repeat' (first|exact trivial|exact rfl|exact wkr rfl|exact wko rfl|exact Nat.zero_le _|exact ⟨_,rfl,WkV.int hi1⟩|exact ⟨_,rfl,WkV.int (show Int.ofNat (ckN (lnsB N H) i + ckL (gB (lnsB N H) i) i k) = Int.ofNat (ckN (lnsB N H) (i + 1)) by rw [ckN,hkE])⟩|exact ⟨_,rfl,WkV.eq (congrArg AV.str (qtd (lnsB N H) i))⟩|exact qai lH|exact qbg (qa1 _) (by decide)|exact kle rfl|exact bdq|exact mxI rfl|exact mxS rfl|apply And.intro))⟩
  ·have hiE2:i = (lnsB N H).length :=by rw [qcn];omega
   have t :=qgn (ckN (lnsB N H) i)
   have hm :=Nat.mod_lt (ckN (lnsB N H) i) (show 0 < 127 by decide)
   have p1 :=qej t.1 (by omega)
   have p2 :=qej t.2.1 (by omega)
   have p3 :=qej t.2.2 (by omega)
   have o1 :=@qb9 N H i
   have o2:(ouB (lnsB N H) i ++ [101,110,100,32]).length ≤ 30000 :=by rw [List.length_append];show _ + 4 ≤ _;omega
   have o3 :=qa8 o2 (qbi (ckN (lnsB N H) i % 127 / 100))
   have o4 :=qa8 o3 (qbi (ckN (lnsB N H) i % 127 / 10 % 10))
   have o5 :=qa8 o4 (qbi (ckN (lnsB N H) i % 127 % 10))
   have o6 :=qa8 o5 (Nat.le_refl ([10]:List UInt8).length)
   refine qab (qbe hi2) ?_
   conv => whnf
   refine .inl ?_
   conv => whnf
   repeat ((first|refine qag (stOk (mil o2 rfl)) ?_|refine qaf (stOk (mil o2 rfl)) ?_|refine pkT (stOk (mil o2 rfl)) ?_|refine qaa (stOk (mil o2 rfl)) ?_|refine qal (stOk (mil o2 rfl)) ?_|refine qam (stOk (mil o2 rfl)) ?_|refine pkF (stOk (mil o2 rfl)) ?_|refine qab (stOk (mil o2 rfl)) ?_|refine qag (stOk (mil o3 rfl)) ?_|refine qaf (stOk (mil o3 rfl)) ?_|refine pkT (stOk (mil o3 rfl)) ?_|refine qaa (stOk (mil o3 rfl)) ?_|refine qal (stOk (mil o3 rfl)) ?_|refine qam (stOk (mil o3 rfl)) ?_|refine pkF (stOk (mil o3 rfl)) ?_|refine qab (stOk (mil o3 rfl)) ?_|refine qag (stOk (mil o4 rfl)) ?_|refine qaf (stOk (mil o4 rfl)) ?_|refine pkT (stOk (mil o4 rfl)) ?_|refine qaa (stOk (mil o4 rfl)) ?_|refine qal (stOk (mil o4 rfl)) ?_|refine qam (stOk (mil o4 rfl)) ?_|refine pkF (stOk (mil o4 rfl)) ?_|refine qab (stOk (mil o4 rfl)) ?_|refine qag (stOk (mil o5 rfl)) ?_|refine qaf (stOk (mil o5 rfl)) ?_|refine pkT (stOk (mil o5 rfl)) ?_|refine qaa (stOk (mil o5 rfl)) ?_|refine qal (stOk (mil o5 rfl)) ?_|refine qam (stOk (mil o5 rfl)) ?_|refine pkF (stOk (mil o5 rfl)) ?_|refine qab (stOk (mil o5 rfl)) ?_|refine qag (stOk (mil o6 rfl)) ?_|refine qaf (stOk (mil o6 rfl)) ?_|refine pkT (stOk (mil o6 rfl)) ?_|refine qaa (stOk (mil o6 rfl)) ?_|refine qal (stOk (mil o6 rfl)) ?_|refine qam (stOk (mil o6 rfl)) ?_|refine pkF (stOk (mil o6 rfl)) ?_|refine qab (stOk (mil o6 rfl)) ?_|refine qac hC (p1) ?_|refine qac hC (p2) ?_|refine qac hC (p3) ?_|refine qad hS (by kernel_rfl) ?_);conv => whnf)
   exact ⟨_,rfl,wk_s (by unfold prtB finB;rw [← hiE2])⟩
theorem qsz {N:List Lk} {H:List Nat} (hN0:N = []) (hH0:H = []):Pure prog 45 [.agg [.nils,.nils]] (.str (prtB N H)) :=by
 have hN:N.length ≤ 400 :=by rw [hN0];exact Nat.zero_le _
 have hH:H.length ≤ 400 :=by rw [hH0];exact Nat.zero_le _
 have pN :=qbd (n :=0) (by decide)
 have f1 :=mil (qgg 0) rfl
 have eR2:AV.lst (stA (lnsP 0 [] [])) 1 .full = .lst (stA (lnsB N H)) (N.length + 1 + H.length) .full :=by rw [hN0,hH0];rfl
 refine qas hE rfl (by repeat' first|exact trivial|assumption|exact qah _|exact fun _ h => nomatch h|apply And.intro) (by repeat' first|exact trivial|assumption|exact qah _|exact fun _ h => nomatch h|apply And.intro) fun S q pc hS hq hC hE => ?_
 conv => whnf
 repeat ((first|refine qag (stOk f1) ?_|refine qaf (stOk f1) ?_|refine pkT (stOk f1) ?_|refine qaa (stOk f1) ?_|refine qal (stOk f1) ?_|refine qam (stOk f1) ?_|refine pkF (stOk f1) ?_|refine qab (stOk f1) ?_|refine qac hC (pN) ?_|refine qad hS (by kernel_rfl) ?_);conv => whnf)
 refine qan hE hS ?_
 conv => whnf
 repeat ((first|refine qad hS (by kernel_rfl) ?_);conv => whnf)
 refine qan hE hS ?_
 conv => whnf
 repeat ((first|refine qad hS (by kernel_rfl) ?_);conv => whnf)
 refine qax hE hS (A :=Nat) [] (fun i => [(3,.lst (stA (lnsB N H)) (N.length + 1 + H.length) (.full)),(7,.str (ouB (lnsB N H) i)),(8,nv (ckN (lnsB N H) i)),(9,nv i)]) (fun _ => []) (fun _ => []) (fun i => i ≤ N.length + 1 + H.length) (fun i => N.length + 1 + H.length - i) 0 (kle rfl) rfl (by refine ⟨rfl,rfl,rfl,rfl,rfl,rfl,1,rfl,?_,?_⟩ <;> repeat' (first|exact trivial|exact rfl|exact wkr rfl|exact wko rfl|exact Nat.zero_le _|exact ⟨_,rfl,WkV.eq eR2⟩|exact qai (qa1 _)|exact kle rfl|exact bdq|exact mxI rfl|exact mxS rfl|apply And.intro)) (Nat.zero_le _) ?_
 intro i hi K hK
 obtain rfl:K = 1 :=hK
 conv => whnf
 by_cases hi2:i < N.length + 1 + H.length
 ·have hi1:IntKind.i64.wrap (Int.ofNat i + 1) = Int.ofNat (i + 1) :=qaz (m :=i + 1) (by omega)
  have hs :=@qff N H i
  have gr :=qa9 (l :=lnsB N H) (i :=i) (by rw [qcn];exact hi2)
  have hw :=@qf3 N H i (by omega)
  repeat ((first|refine qag (qae hi2) ?_|refine qaf (qae hi2) ?_|refine pkT (qae hi2) ?_|refine qaa (qae hi2) ?_|refine qal (qae hi2) ?_|refine qam (qae hi2) ?_|refine pkF (qae hi2) ?_|refine qab (qae hi2) ?_|refine qad hS (by kernel_rfl) ?_);conv => whnf)
  refine qax hE hS (A :=Nat) [3,7,9] (fun k => [(8,nv (ckN (lnsB N H) i + ckL (gB (lnsB N H) i) i k)),(10,nv k)]) (fun _ => []) (fun _ => []) (fun k => k ≤ (gB (lnsB N H) i).length) (fun k => (gB (lnsB N H) i).length - k) 0 (kle rfl) rfl (by refine ⟨rfl,rfl,rfl,rfl,rfl,rfl,1,rfl,?_,?_⟩ <;> repeat' (first|exact trivial|exact rfl|exact wkr rfl|exact wko rfl|exact Nat.zero_le _|exact qai (qa1 _)|exact kle rfl|exact bdq|exact mxI rfl|exact mxS rfl|apply And.intro)) (Nat.zero_le _) ?_
  intro k hk K hK
  obtain rfl:K = 1 :=hK
  conv => whnf
  by_cases hk2:k < (gB (lnsB N H) i).length
  ·have hk1:IntKind.i64.wrap (Int.ofNat k + 1) = Int.ofNat (k + 1) :=qaz (m :=k + 1) (by omega)
   have hc :=qf4 (s :=gB (lnsB N H) i) (i :=i) (k :=k) (by omega) (by omega)
   have hb:((gB (lnsB N H) i).getD k 0).toNat ≤ 256 :=Nat.le_of_lt (UInt8.toNat_lt _)
   have ew:_ = Int.ofNat (ckN (lnsB N H) i + ckL (gB (lnsB N H) i) i (k + 1)) :=(qe1 (c :=ckN (lnsB N H) i + ckL (gB (lnsB N H) i) i k) (by omega) hb (show k ≤ 16 by omega) (show i < 1000 by omega)).trans (by rw [ckL,Nat.add_assoc])
   repeat ((first|refine qak (nthP gr) ?_|refine qak (qco hk2) ?_|refine qag (qaj hi2) ?_|refine qaf (qaj hi2) ?_|refine pkT (qaj hi2) ?_|refine qaa (qaj hi2) ?_|refine qag (qae hk2) ?_|refine qaf (qae hk2) ?_|refine pkT (qae hk2) ?_|refine qaa (qae hk2) ?_|refine qal (qae hk2) ?_|refine qam (qae hk2) ?_|refine pkF (qae hk2) ?_|refine qab (qae hk2) ?_|refine qag (qaj hk2) ?_|refine qaf (qaj hk2) ?_|refine pkT (qaj hk2) ?_|refine qaa (qaj hk2) ?_|refine qad hS (by kernel_rfl) ?_);conv => whnf)
   exact ⟨k + 1,hk2,by omega,Nat.le_refl _,(by refine ⟨rfl,rfl,rfl,rfl,rfl,rfl,1,rfl,?_,?_⟩ <;> repeat' (first|exact trivial|exact rfl|exact wkr rfl|exact wko rfl|exact Nat.zero_le _|exact ⟨_,rfl,WkV.int hk1⟩|exact ⟨_,rfl,WkV.int ew⟩|exact qai (qa1 _)|exact kle rfl|exact bdq|exact mxI rfl|exact mxS rfl|apply And.intro))⟩
  ·have hkE:k = (gB (lnsB N H) i).length :=by omega
   have o1 :=@qb9 N H i
   have o3 :=qa8 o1 hs
   have o4 :=qa8 o3 (Nat.le_refl ([10]:List UInt8).length)
   have s3 :=Nat.le_trans o3 (show i * 17 + 16 ≤ 1000000 by omega)
   have s4 :=Nat.le_trans o4 (show i * 17 + 16 + 1 ≤ 1000000 by omega)
   repeat ((first|refine qak (nthP gr) ?_|refine qag (qaj hi2) ?_|refine qaf (qaj hi2) ?_|refine pkT (qaj hi2) ?_|refine qaa (qaj hi2) ?_|refine qad hS (by kernel_rfl) ?_);conv => whnf)
   refine qab (qbe hk2) ?_
   conv => whnf
   refine .inl ?_
   conv => whnf
   repeat ((first|refine qak (nthP gr) ?_|refine qag (qaj hi2) ?_|refine qaf (qaj hi2) ?_|refine pkT (qaj hi2) ?_|refine qaa (qaj hi2) ?_|refine qag (stOk s3) ?_|refine qaf (stOk s3) ?_|refine pkT (stOk s3) ?_|refine qaa (stOk s3) ?_|refine qal (stOk s3) ?_|refine qam (stOk s3) ?_|refine pkF (stOk s3) ?_|refine qab (stOk s3) ?_|refine qag (stOk s4) ?_|refine qaf (stOk s4) ?_|refine pkT (stOk s4) ?_|refine qaa (stOk s4) ?_|refine qal (stOk s4) ?_|refine qam (stOk s4) ?_|refine pkF (stOk s4) ?_|refine qab (stOk s4) ?_|refine qad hS (by kernel_rfl) ?_);conv => whnf)
   exact ⟨i + 1,hi2,by omega,Nat.le_refl _,(by refine ⟨rfl,rfl,rfl,rfl,rfl,rfl,1,rfl,?_,?_⟩ <;> repeat' (first|exact trivial|exact rfl|exact wkr rfl|exact wko rfl|exact Nat.zero_le _|exact ⟨_,rfl,WkV.int hi1⟩|exact ⟨_,rfl,WkV.int (show Int.ofNat (ckN (lnsB N H) i + ckL (gB (lnsB N H) i) i k) = Int.ofNat (ckN (lnsB N H) (i + 1)) by rw [ckN,hkE])⟩|exact ⟨_,rfl,WkV.eq (congrArg AV.str (qtd (lnsB N H) i))⟩|exact qai (qa1 _)|exact kle rfl|exact bdq|exact mxI rfl|exact mxS rfl|apply And.intro))⟩
 ·have hiE2:i = (lnsB N H).length :=by rw [qcn];omega
  have t :=qgn (ckN (lnsB N H) i)
  have hm :=Nat.mod_lt (ckN (lnsB N H) i) (show 0 < 127 by decide)
  have p1 :=qej t.1 (by omega)
  have p2 :=qej t.2.1 (by omega)
  have p3 :=qej t.2.2 (by omega)
  have o1 :=@qb9 N H i
  have o2:(ouB (lnsB N H) i ++ [101,110,100,32]).length ≤ 30000 :=by rw [List.length_append];show _ + 4 ≤ _;omega
  have o3 :=qa8 o2 (qbi (ckN (lnsB N H) i % 127 / 100))
  have o4 :=qa8 o3 (qbi (ckN (lnsB N H) i % 127 / 10 % 10))
  have o5 :=qa8 o4 (qbi (ckN (lnsB N H) i % 127 % 10))
  have o6 :=qa8 o5 (Nat.le_refl ([10]:List UInt8).length)
  refine qab (qbe hi2) ?_
  conv => whnf
  refine .inl ?_
  conv => whnf
  repeat ((first|refine qag (stOk (mil o2 rfl)) ?_|refine qaf (stOk (mil o2 rfl)) ?_|refine pkT (stOk (mil o2 rfl)) ?_|refine qaa (stOk (mil o2 rfl)) ?_|refine qal (stOk (mil o2 rfl)) ?_|refine qam (stOk (mil o2 rfl)) ?_|refine pkF (stOk (mil o2 rfl)) ?_|refine qab (stOk (mil o2 rfl)) ?_|refine qag (stOk (mil o3 rfl)) ?_|refine qaf (stOk (mil o3 rfl)) ?_|refine pkT (stOk (mil o3 rfl)) ?_|refine qaa (stOk (mil o3 rfl)) ?_|refine qal (stOk (mil o3 rfl)) ?_|refine qam (stOk (mil o3 rfl)) ?_|refine pkF (stOk (mil o3 rfl)) ?_|refine qab (stOk (mil o3 rfl)) ?_|refine qag (stOk (mil o4 rfl)) ?_|refine qaf (stOk (mil o4 rfl)) ?_|refine pkT (stOk (mil o4 rfl)) ?_|refine qaa (stOk (mil o4 rfl)) ?_|refine qal (stOk (mil o4 rfl)) ?_|refine qam (stOk (mil o4 rfl)) ?_|refine pkF (stOk (mil o4 rfl)) ?_|refine qab (stOk (mil o4 rfl)) ?_|refine qag (stOk (mil o5 rfl)) ?_|refine qaf (stOk (mil o5 rfl)) ?_|refine pkT (stOk (mil o5 rfl)) ?_|refine qaa (stOk (mil o5 rfl)) ?_|refine qal (stOk (mil o5 rfl)) ?_|refine qam (stOk (mil o5 rfl)) ?_|refine pkF (stOk (mil o5 rfl)) ?_|refine qab (stOk (mil o5 rfl)) ?_|refine qag (stOk (mil o6 rfl)) ?_|refine qaf (stOk (mil o6 rfl)) ?_|refine pkT (stOk (mil o6 rfl)) ?_|refine qaa (stOk (mil o6 rfl)) ?_|refine qal (stOk (mil o6 rfl)) ?_|refine qam (stOk (mil o6 rfl)) ?_|refine pkF (stOk (mil o6 rfl)) ?_|refine qab (stOk (mil o6 rfl)) ?_|refine qac hC (p1) ?_|refine qac hC (p2) ?_|refine qac hC (p3) ?_|refine qad hS (by kernel_rfl) ?_);conv => whnf)
  exact ⟨_,rfl,wk_s (by unfold prtB finB;rw [← hiE2])⟩
theorem qls {N:List Lk} {H:List Nat} {x y:AV} (h:okT N H) (hN:N.length ≤ 400) (hH:H.length ≤ 400) (hx:x = .nils ∧ N = [] ∨ x = nkA N ∧ N ≠ []) (hy:y = .nils ∧ H = [] ∨ y = nl (zl H) ∧ H ≠ []):Pure prog 45 [.agg [x,y]] (.str (prtB N H)) :=by
 rcases hx with ⟨rfl,e1⟩ | ⟨rfl,e1⟩ <;> rcases hy with ⟨rfl,e2⟩ | ⟨rfl,e2⟩
 ·exact qsz e1 e2
 ·exact qs0 h e1 hH (List.length_pos_iff.2 e2)
 ·exact qs1 h hN e2 (List.length_pos_iff.2 e1)
 ·exact qs2 h hN hH (List.length_pos_iff.2 e1)
end
end Go.Abs.Seat
