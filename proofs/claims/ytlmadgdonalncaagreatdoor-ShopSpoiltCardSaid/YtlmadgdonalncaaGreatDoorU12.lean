/-
  The text of a piece, as the program writes it.
-/
import Derived.Test.YtlmadgdonalncaaGreatDoorU10
import Derived.Test.YtlmadgdonalncaaGreatDoorB54
import Derived.Test.YtlmadgdonalncaaGreatDoorU4
import Derived.Test.YtlmadgdonalncaaGreatDoorU5
namespace Go.Abs.Seat
noncomputable section
open Go Go.Abs Go.Proofs.Tryz
set_option maxRecDepth 100000
set_option maxHeartbeats 40000000
attribute [local irreducible] IntKind.wrap pEq
def lnsB (N:List Lk) (H:List Nat):List (List UInt8) :=lnM N.length :: (N.map lnL ++ H.map lnH)
def gB (l:List (List UInt8)) (i:Nat):List UInt8 :=l.getD i []
def ckL (s:List UInt8) (i:Nat):Nat → Nat
 | 0 => 0
 |k + 1 => ckL s i k + (s.getD k 0).toNat * (k + 1) * (i + 1)
def ckN (l:List (List UInt8)):Nat → Nat
 | 0 => 0
 |i + 1 => ckN l i + ckL (gB l i) i (gB l i).length
def ouB (l:List (List UInt8)):Nat → List UInt8
 | 0 => []
 |i + 1 => ouB l i ++ (gB l i ++ [10])
def finB (o:List UInt8) (c:Nat):List UInt8 :=((((o ++ [101,110,100,32]) ++ dec (c / 100)) ++ dec (c / 10 % 10)) ++ dec (c % 10)) ++ [10]
def prtB (N:List Lk) (H:List Nat):List UInt8 :=finB (ouB (lnsB N H) (lnsB N H).length) (ckN (lnsB N H) (lnsB N H).length % 127)
def rwL (x:Lk):AV :=.iface 193 (.agg [nv x.1,nv x.2.1,nv x.2.2])
def rwH (n:Nat):AV :=.iface 194 (nv n)
def rwA (m:Nat) (N:List Lk) (H:List Nat):List AV :=.iface 191 (nv m) :: (N.map rwL ++ H.map rwH)
theorem qbw (m:Nat) (N:List Lk) (H:List Nat):Lives noL (rwA m N H) :=by
 refine ⟨trivial,?_⟩
 have h1:∀ l:List Lk,Lives noL (l.map rwL) :=fun l => by
  induction l with
  |nil => trivial
  |cons x r ih => exact ⟨⟨trivial,trivial,trivial,trivial⟩,ih⟩
 have h2:∀ l:List Nat,Lives noL (l.map rwH) :=fun l => by
  induction l with
  |nil => trivial
  |cons x r ih => exact ⟨trivial,ih⟩
 exact Lives.append (h1 N) (h2 H)
def okT (N:List Lk) (H:List Nat):Prop :=(∀ x,x ∈ N → x.1 < 100 ∧ x.2.1 < 100 ∧ x.2.2 < 100) ∧ ∀ n,n ∈ H → n < 100
theorem qce {xs:List AV} (h:Lives noL xs) {k c n:Nat} (hc:c + 1 ≤ n):bd (.lst xs k (.ch c)) ≤ n :=Nat.max_le.2 ⟨hc,qaf h⟩
theorem qua (m:Nat) (N:List Lk) (H:List Nat):(rwA m N H).length = N.length + H.length + 1 :=by
 unfold rwA
 rw [List.length_cons,List.length_append,List.length_map,List.length_map]
theorem qr4 (m:Nat) (N:List Lk) {i:Nat} (h:i < N.length):rwA m (N.take i) [] ++ [rwL (gN N i)] = rwA m (N.take (i + 1)) [] :=by
 rw [qko N h]
 unfold rwA
 simp
theorem qub (m:Nat) (N:List Lk) (H:List Nat) {i:Nat} (h:i < H.length):rwA m N (H.take i) ++ [rwH (gn H i)] = rwA m N (H.take (i + 1)) :=by
 rw [qij H h]
 unfold rwA
 simp
theorem qgg {m:Nat} {N:List Lk} {H:List Nat} {n:Nat} (h:N.length + H.length + 1 = n):qdn (rwA m N H) (n * 1) = true :=by
 rw [Nat.mul_one,← h,← qua m N H]
 exact qd2 _
theorem qhg {N:List Lk} {H:List Nat} (i:Nat):(gB (lnsB N H) i).length ≤ 16 :=by
 unfold gB
 by_cases hi:i < (lnsB N H).length
 ·have hm:(lnsB N H).getD i [] ∈ lnsB N H :=by
   simp only [List.getD,hi,List.getElem?_eq_getElem,Option.getD_some]
   exact List.getElem_mem hi
  generalize (lnsB N H).getD i [] = s at hm
  unfold lnsB at hm
  rcases List.mem_cons.1 hm with rfl | hm
  ·exact Nat.le_trans (qqk _) (by decide)
  ·rcases List.mem_append.1 hm with hm | hm
   ·obtain ⟨x,_,rfl⟩ :=List.mem_map.1 hm
    exact qqm x
   ·obtain ⟨x,_,rfl⟩ :=List.mem_map.1 hm
    exact Nat.le_trans (qqo _) (by decide)
 ·simp [List.getD,List.getElem?_eq_none (Nat.le_of_not_lt hi)]
theorem qge (N:List Lk) (H:List Nat):(lnsB N H).length = N.length + 1 + H.length :=by
 unfold lnsB
 rw [List.length_cons,List.length_append,List.length_map,List.length_map]
 omega
theorem qtv {s:List UInt8} {i:Nat}:∀ k,ckL s i k ≤ k * (256 * (k * (i + 1)))
 | 0 => Nat.zero_le _
 |k + 1 => by
  have ih :=@qtv s i k
  rw [ckL]
  have hb:(s.getD k 0).toNat ≤ 256 :=Nat.le_of_lt (UInt8.toNat_lt _)
  have h1:k * (256 * (k * (i + 1))) ≤ k * (256 * ((k + 1) * (i + 1))) :=Nat.mul_le_mul_left _ (Nat.mul_le_mul_left _ (Nat.mul_le_mul_right _ (Nat.le_succ k)))
  have h2:(s.getD k 0).toNat * (k + 1) * (i + 1) ≤ 256 * ((k + 1) * (i + 1)) :=by rw [Nat.mul_assoc];exact Nat.mul_le_mul_right _ hb
  have h3:(k + 1) * (256 * ((k + 1) * (i + 1))) = k * (256 * ((k + 1) * (i + 1))) + 256 * ((k + 1) * (i + 1)) :=Nat.succ_mul _ _
  omega
theorem qkf {s:List UInt8} {i k:Nat} (hk:k ≤ 16) (hi:i < 1000):ckL s i k ≤ 65536000 :=by
 refine Nat.le_trans (qtv k) ?_
 have h1:k * (i + 1) ≤ 16 * 1000 :=Nat.mul_le_mul hk (by omega)
 have h2:256 * (k * (i + 1)) ≤ 256 * 16000 :=Nat.mul_le_mul_left _ h1
 exact Nat.le_trans (Nat.mul_le_mul hk h2) (by decide)
theorem qke {N:List Lk} {H:List Nat}:∀ i,i ≤ 1000 → ckN (lnsB N H) i ≤ i * 65536000
 | 0,_ => Nat.zero_le _
 |i + 1,h => by
  have ih :=@qke N H i (by omega)
  rw [ckN]
  have :=qkf (s :=gB (lnsB N H) i) (i :=i) (qhg (N :=N) (H :=H) i) (by omega)
  omega
theorem qdm {N:List Lk} {H:List Nat}:∀ i,(ouB (lnsB N H) i).length ≤ i * 17
 | 0 => Nat.le_refl _
 |i + 1 => by
  have ih :=@qdm N H i
  have :=@qhg N H i
  rw [ouB,List.length_append,List.length_append]
  show _ + (_ + 1) ≤ _
  omega
theorem qjl {c b k i:Nat} (hc:c ≤ 1000000000000) (hb:b ≤ 256) (hk:k ≤ 16) (hi:i < 1000):IntKind.i64.wrap (Int.ofNat c + IntKind.i64.wrap (IntKind.i64.wrap (IntKind.i64.wrap (Int.ofNat b) * IntKind.i64.wrap (Int.ofNat k + 1)) * IntKind.i64.wrap (Int.ofNat i + 1))) = Int.ofNat (c + b * (k + 1) * (i + 1)) :=by
 have h1:b * (k + 1) ≤ 256 * 17 :=Nat.mul_le_mul hb (by omega)
 have h2:b * (k + 1) * (i + 1) ≤ 256 * 17 * 1000 :=Nat.mul_le_mul h1 (by omega)
 rw [show IntKind.i64.wrap (Int.ofNat k + 1) = Int.ofNat (k + 1) from qaz (m :=k + 1) (by omega),show IntKind.i64.wrap (Int.ofNat i + 1) = Int.ofNat (i + 1) from qaz (m :=i + 1) (by omega)]
 rw [show IntKind.i64.wrap (Int.ofNat b) = Int.ofNat b from qaz (m :=b) (by omega)]
 rw [show IntKind.i64.wrap (Int.ofNat b * Int.ofNat (k + 1)) = Int.ofNat (b * (k + 1)) from qaz (m :=b * (k + 1)) (by omega)]
 rw [show IntKind.i64.wrap (Int.ofNat (b * (k + 1)) * Int.ofNat (i + 1)) = Int.ofNat (b * (k + 1) * (i + 1)) from qaz (m :=b * (k + 1) * (i + 1)) (by omega)]
 exact qaz (m :=c + b * (k + 1) * (i + 1)) (by omega)
theorem qf9 {N:List Lk} {H:List Nat} (h:okT N H) (hN:N.length < 100) {i:Nat} (hi:i < N.length + 1 + H.length) :
  (nth (rwA N.length N H) (i * 1) = some (.iface 191 (nv N.length)) ∧ Pure prog 140 [.iface 191 (nv N.length)] (.str (gB (lnsB N H) i))) ∨ (∃ x:Lk,nth (rwA N.length N H) (i * 1) = some (.iface 193 (.agg [nv x.1,nv x.2.1,nv x.2.2])) ∧ Pure prog 140 [.iface 193 (.agg [nv x.1,nv x.2.1,nv x.2.2])] (.str (gB (lnsB N H) i))) ∨ (∃ n:Nat,nth (rwA N.length N H) (i * 1) = some (.iface 194 (nv n)) ∧ Pure prog 140 [.iface 194 (nv n)] (.str (gB (lnsB N H) i))) :=by
 rw [qg5,Nat.mul_one]
 unfold rwA lnsB gB
 cases i with
 |zero => exact .inl ⟨rfl,qn7 hN⟩
 |succ i =>
  simp only [List.getElem?_cons_succ,List.getD_cons_succ]
  by_cases c:i < N.length
  ·refine .inr (.inl ⟨N[i],?_,?_⟩)
   ·rw [List.getElem?_append_left (by rw [List.length_map];exact c),List.getElem?_map,List.getElem?_eq_getElem c];rfl
   ·rw [List.getD,List.getElem?_append_left (by rw [List.length_map];exact c),List.getElem?_map,List.getElem?_eq_getElem c]
    have :=h.1 _ (List.getElem_mem c)
    exact qn8 this.1 this.2.1 this.2.2
  ·have d:i - N.length < H.length :=by omega
   refine .inr (.inr ⟨H[i - N.length],?_,?_⟩)
   ·rw [List.getElem?_append_right (by rw [List.length_map];omega),List.length_map,List.getElem?_map,List.getElem?_eq_getElem d];rfl
   ·rw [List.getD,List.getElem?_append_right (by rw [List.length_map];omega),List.length_map,List.getElem?_map,List.getElem?_eq_getElem d]
    exact qn9 (h.2 _ (List.getElem_mem d))
theorem qc5 {x:Int} {m:Nat} (hx:x = Int.ofNat m) (hm:m < 100):Pure prog 141 [iv x] (.str (dec m)) :=by subst hx;exact qds hm
theorem ql2 (c:Nat):IntKind.i64.wrap ((Int.tmod (Int.ofNat c) 127).tdiv 100) = Int.ofNat (c % 127 / 100) ∧ (IntKind.i64.wrap ((Int.tmod (Int.ofNat c) 127).tdiv 10)).tmod 10 = Int.ofNat (c % 127 / 10 % 10) ∧ (Int.tmod (Int.ofNat c) 127).tmod 10 = Int.ofNat (c % 127 % 10) :=by
 have h :=Nat.mod_lt c (show 0 < 127 by decide)
 refine ⟨qaz (m :=c % 127 / 100) (by omega),?_,rfl⟩
 rw [show IntKind.i64.wrap ((Int.tmod (Int.ofNat c) 127).tdiv 10) = Int.ofNat (c % 127 / 10) from qaz (m :=c % 127 / 10) (by omega)]
 rfl
theorem qv3 {N:List Lk} {H:List Nat} (h:okT N H) (hN:N.length < 100) (hH:H.length ≤ 400) (h1:1 ≤ N.length):Pure prog 90 [.agg [nkA N,nl (zl H)]] (.str (prtB N H)) :=by
 have lN :=qa5 (cL N)
 have lH :=qau (zl H)
 refine qan hE rfl (by repeat' first|exact trivial|assumption|exact qae _|exact fun _ h => nomatch h|apply And.intro) (by repeat' first|exact trivial|assumption|exact qae _|exact fun _ h => nomatch h|apply And.intro) fun S q pc hS hq hC hE => ?_
 conv => whnf
 refine qah hE hS ?_
 conv => whnf
 repeat ((first|refine qal (takP (qju N h1)) ?_|refine qaj (qag h1) ?_|refine qai (qag h1) ?_|refine pkT (qag h1) ?_|refine qaa (qag h1) ?_|refine qar (qag h1) ?_|refine qas (qag h1) ?_|refine pkF (qag h1) ?_|refine qac (qag h1) ?_|refine qaj (qaq h1) ?_|refine qai (qaq h1) ?_|refine pkT (qaq h1) ?_|refine qaa (qaq h1) ?_|refine qad hS (by kernel_rfl) ?_);conv => whnf)
 refine qay hE hS (A :=Nat) [1,20,21] (fun i => [(3,.lst (rwA N.length (N.take i) []) (i + 1) (.ch 2)),(22,nv i)]) (fun i => [(2,.chain (i + 1) 1 196)]) (fun _ => []) (fun i => 1 ≤ i ∧ i ≤ N.length) (fun i => N.length - i) 1 (kle rfl) rfl (by refine ⟨rfl,rfl,rfl,rfl,rfl,rfl,3,rfl,?_,?_⟩ <;> repeat' (first|exact trivial|exact rfl|exact wkr rfl|exact wko rfl|exact Nat.zero_le _|exact ⟨_,rfl,WkV.int (qaz (m :=1) (by decide))⟩|exact ⟨_,rfl,WkV.eq (congrArg (fun z => AV.lst z 2 (.ch 2)) (qr4 N.length N h1))⟩|exact qaf lN|exact qaf lH|exact qce (qbw _ _ _) (by decide)|exact kle rfl|exact bdq|exact mxI rfl|exact mxS rfl|apply And.intro)) ⟨Nat.le_refl _,h1⟩ ?_
 intro i ⟨hi,hiN⟩ K hK
 obtain rfl:K = 3 :=hK
 conv => whnf
 by_cases hi2:i < N.length
 ·have hi1:IntKind.i64.wrap (Int.ofNat i + 1) = Int.ofNat (i + 1) :=qaz (m :=i + 1) (by omega)
  have d1:decide ((i + 1 + (0 + 1)) * 16 ≤ 140737488355328) = true :=decide_eq_true (by omega)
  have d2:decide (i + 1 + (0 + 1) ≤ 9223372036854775807) = true :=decide_eq_true (by omega)
  have d3 :=qgg (m :=N.length) (N :=N.take i) (H :=[]) (n :=i + 1) (by rw [List.length_take];simp only [List.length_nil];omega)
  have d4:decide (i + 1 = i + 1) = true :=decide_eq_true rfl
  repeat ((first|refine qal (takP (qju N hi2)) ?_|refine qaj (qag hi2) ?_|refine qai (qag hi2) ?_|refine pkT (qag hi2) ?_|refine qaa (qag hi2) ?_|refine qar (qag hi2) ?_|refine qas (qag hi2) ?_|refine pkF (qag hi2) ?_|refine qac (qag hi2) ?_|refine qaj (qaq hi2) ?_|refine qai (qaq hi2) ?_|refine pkT (qaq hi2) ?_|refine qaa (qaq hi2) ?_|refine qaj d1 ?_|refine qai d1 ?_|refine pkT d1 ?_|refine qaa d1 ?_|refine qaj d2 ?_|refine qai d2 ?_|refine pkT d2 ?_|refine qaa d2 ?_|refine qaj d3 ?_|refine qai d3 ?_|refine pkT d3 ?_|refine qaa d3 ?_|refine qar d3 ?_|refine qas d3 ?_|refine pkF d3 ?_|refine qac d3 ?_|refine qaj d4 ?_|refine qai d4 ?_|refine pkT d4 ?_|refine qaa d4 ?_|refine qad hS (by kernel_rfl) ?_);conv => whnf)
  exact ⟨i + 1,⟨by omega,hi2⟩,by omega,kle rfl,(by refine ⟨rfl,rfl,rfl,rfl,rfl,rfl,3,rfl,?_,?_⟩ <;> repeat' (first|exact trivial|exact rfl|exact wkr rfl|exact wko rfl|exact Nat.zero_le _|exact ⟨_,rfl,WkV.int hi1⟩|exact ⟨_,rfl,WkV.eq (congrArg (fun z => AV.lst z (i + 1 + 1) (.ch 2)) (qr4 N.length N hi2))⟩|exact qaf lN|exact qaf lH|exact qce (qbw _ _ _) (by decide)|exact kle rfl|exact bdq|exact mxI rfl|exact mxS rfl|apply And.intro))⟩
 ·refine qac (qbt hi2) ?_
  conv => whnf
  refine .inl ?_
  conv => whnf
  have hiE:i = N.length :=by omega
  have eR:AV.lst (rwA N.length (N.take i) []) (i + 1) (.ch 2) = .lst (rwA N.length N (H.take 0)) (N.length + 1 + 0) (.ch 2) :=by rw [hiE,List.take_length];rfl
  have eC:AObj.chain (i + 1) 1 196 = .chain (N.length + 1 + 0) 1 196 :=by rw [hiE]
  refine qay hE hS (A :=Nat) [1,33,34] (fun j => [(3,.lst (rwA N.length N (H.take j)) (N.length + 1 + j) (.ch 2)),(35,nv j)]) (fun j => [(2,.chain (N.length + 1 + j) 1 196)]) (fun _ => []) (fun j => j ≤ H.length) (fun j => H.length - j) 0 (kle rfl) rfl (by refine ⟨rfl,rfl,rfl,rfl,rfl,rfl,3,rfl,?_,?_⟩ <;> repeat' (first|exact trivial|exact rfl|exact wkr rfl|exact wko rfl|exact Nat.zero_le _|exact ⟨_,rfl,WkV.eq eR⟩|exact eC|exact qaf lN|exact qaf lH|exact qce (qbw _ _ _) (by decide)|exact kle rfl|exact bdq|exact mxI rfl|exact mxS rfl|apply And.intro)) (Nat.zero_le _) ?_
  intro j hj K hK
  obtain rfl:K = 3 :=hK
  conv => whnf
  by_cases hj2:j < H.length
  ·have hj1:IntKind.i64.wrap (Int.ofNat j + 1) = Int.ofNat (j + 1) :=qaz (m :=j + 1) (by omega)
   have hjz:j < (zl H).length :=by rw [qcc];exact hj2
   have gj:nth (ivs (zl H)) (j * 1) = some (nv (gn H j)) :=(qcf (l :=zl H) (i :=j) hjz).trans (by rw [qi9 H hj2])
   have d1:decide ((N.length + 1 + j + (0 + 1)) * 16 ≤ 140737488355328) = true :=decide_eq_true (by omega)
   have d2:decide (N.length + 1 + j + (0 + 1) ≤ 9223372036854775807) = true :=decide_eq_true (by omega)
   have d3 :=qgg (m :=N.length) (N :=N) (H :=H.take j) (n :=N.length + 1 + j) (by rw [List.length_take];omega)
   have d4:decide (N.length + 1 + j = N.length + 1 + j) = true :=decide_eq_true rfl
   repeat ((first|refine qal (nthP gj) ?_|refine qaj (qag hjz) ?_|refine qai (qag hjz) ?_|refine pkT (qag hjz) ?_|refine qaa (qag hjz) ?_|refine qar (qag hjz) ?_|refine qas (qag hjz) ?_|refine pkF (qag hjz) ?_|refine qac (qag hjz) ?_|refine qaj (qaq hjz) ?_|refine qai (qaq hjz) ?_|refine pkT (qaq hjz) ?_|refine qaa (qaq hjz) ?_|refine qaj d1 ?_|refine qai d1 ?_|refine pkT d1 ?_|refine qaa d1 ?_|refine qaj d2 ?_|refine qai d2 ?_|refine pkT d2 ?_|refine qaa d2 ?_|refine qaj d3 ?_|refine qai d3 ?_|refine pkT d3 ?_|refine qaa d3 ?_|refine qar d3 ?_|refine qas d3 ?_|refine pkF d3 ?_|refine qac d3 ?_|refine qaj d4 ?_|refine qai d4 ?_|refine pkT d4 ?_|refine qaa d4 ?_|refine qad hS (by kernel_rfl) ?_);conv => whnf)
   exact ⟨j + 1,hj2,by omega,kle rfl,(by refine ⟨rfl,rfl,rfl,rfl,rfl,rfl,3,rfl,?_,?_⟩ <;> repeat' (first|exact trivial|exact rfl|exact wkr rfl|exact wko rfl|exact Nat.zero_le _|exact ⟨_,rfl,WkV.int hj1⟩|exact ⟨_,rfl,WkV.eq (congrArg (fun z => AV.lst z (N.length + 1 + j + 1) (.ch 2)) (qub N.length N H hj2))⟩|exact qaf lN|exact qaf lH|exact qce (qbw _ _ _) (by decide)|exact kle rfl|exact bdq|exact mxI rfl|exact mxS rfl|apply And.intro))⟩
  ·refine qac (qbt (show ¬ j < (zl H).length by rw [qcc];exact hj2)) ?_
   conv => whnf
   refine .inl ?_
   conv => whnf
   have hjE:j = H.length :=by omega
   have eR2:AV.lst (rwA N.length N (H.take j)) (N.length + 1 + j) (.ch 2) = .lst (rwA N.length N H) (N.length + 1 + H.length) (.ch 2) :=by rw [hjE,List.take_length]
   have eN2:Int.ofNat (N.length + 1 + j) = Int.ofNat (N.length + 1 + H.length) :=by rw [hjE]
   refine qay hE hS (A :=Nat) [] (fun i => [(45,.lst (rwA N.length N H) (N.length + 1 + H.length) (.ch 2)),(46,nv (N.length + 1 + H.length)),(8,.str (ouB (lnsB N H) i)),(9,nv (ckN (lnsB N H) i)),(47,nv i)]) (fun _ => []) (fun _ => []) (fun i => i ≤ N.length + 1 + H.length) (fun i => N.length + 1 + H.length - i) 0 (kle rfl) rfl (by refine ⟨rfl,rfl,rfl,rfl,rfl,rfl,3,rfl,?_,?_⟩ <;> repeat' (first|exact trivial|exact rfl|exact wkr rfl|exact wko rfl|exact Nat.zero_le _|exact ⟨_,rfl,WkV.eq eR2⟩|exact ⟨_,rfl,WkV.int eN2⟩|exact qaf lN|exact qaf lH|exact qce (qbw _ _ _) (by decide)|exact kle rfl|exact bdq|exact mxI rfl|exact mxS rfl|apply And.intro)) (Nat.zero_le _) ?_
   intro i hi K hK
   obtain rfl:K = 3 :=hK
   conv => whnf
   by_cases hi2:i < N.length + 1 + H.length
   ·have hi1:IntKind.i64.wrap (Int.ofNat i + 1) = Int.ofNat (i + 1) :=qaz (m :=i + 1) (by omega)
    have hs :=@qhg N H i
    refine Or.elim (qf9 h hN hi2) (fun hr => ?_) fun hr => Or.elim hr (fun hr => Exists.elim hr fun x hr => ?_) fun hr => Exists.elim hr fun x hr => ?_
    all_goals
     have gr :=hr.1
     have pl :=hr.2
     have hw :=@qke N H i (by omega)
     repeat ((first|refine qal (nthP gr) ?_|refine qaj (qag hi2) ?_|refine qai (qag hi2) ?_|refine pkT (qag hi2) ?_|refine qaa (qag hi2) ?_|refine qar (qag hi2) ?_|refine qas (qag hi2) ?_|refine pkF (qag hi2) ?_|refine qac (qag hi2) ?_|refine qaj (qaq hi2) ?_|refine qai (qaq hi2) ?_|refine pkT (qaq hi2) ?_|refine qaa (qaq hi2) ?_|refine qab hC (pl) ?_|refine qad hS (by kernel_rfl) ?_);conv => whnf)
     refine qay hE hS (A :=Nat) [45,46,8,10,12,47,55] (fun k => [(9,nv (ckN (lnsB N H) i + ckL (gB (lnsB N H) i) i k)),(56,nv k)]) (fun _ => []) (fun _ => []) (fun k => k ≤ (gB (lnsB N H) i).length) (fun k => (gB (lnsB N H) i).length - k) 0 (kle rfl) rfl (by refine ⟨rfl,rfl,rfl,rfl,rfl,rfl,3,rfl,?_,?_⟩ <;> repeat' (first|exact trivial|exact rfl|exact wkr rfl|exact wko rfl|exact Nat.zero_le _|exact qaf lN|exact qaf lH|exact qce (qbw _ _ _) (by decide)|exact kle rfl|exact bdq|exact mxI rfl|exact mxS rfl|apply And.intro)) (Nat.zero_le _) ?_
     intro k hk K hK
     obtain rfl:K = 3 :=hK
     conv => whnf
     by_cases hk2:k < (gB (lnsB N H) i).length
     ·have hk1:IntKind.i64.wrap (Int.ofNat k + 1) = Int.ofNat (k + 1) :=qaz (m :=k + 1) (by omega)
      have hc :=qkf (s :=gB (lnsB N H) i) (i :=i) (k :=k) (by omega) (by omega)
      have hb:((gB (lnsB N H) i).getD k 0).toNat ≤ 256 :=Nat.le_of_lt (UInt8.toNat_lt _)
      have ew:_ = Int.ofNat (ckN (lnsB N H) i + ckL (gB (lnsB N H) i) i (k + 1)) :=(qjl (c :=ckN (lnsB N H) i + ckL (gB (lnsB N H) i) i k) (by omega) hb (show k ≤ 16 by omega) (show i < 1000 by omega)).trans (by rw [ckL,Nat.add_assoc])
      repeat ((first|refine qal (qhm hk2) ?_|refine qaj (qag hk2) ?_|refine qai (qag hk2) ?_|refine pkT (qag hk2) ?_|refine qaa (qag hk2) ?_|refine qar (qag hk2) ?_|refine qas (qag hk2) ?_|refine pkF (qag hk2) ?_|refine qac (qag hk2) ?_|refine qaj (qaq hk2) ?_|refine qai (qaq hk2) ?_|refine pkT (qaq hk2) ?_|refine qaa (qaq hk2) ?_|refine qad hS (by kernel_rfl) ?_);conv => whnf)
      exact ⟨k + 1,hk2,by omega,Nat.le_refl _,(by refine ⟨rfl,rfl,rfl,rfl,rfl,rfl,3,rfl,?_,?_⟩ <;> repeat' (first|exact trivial|exact rfl|exact wkr rfl|exact wko rfl|exact Nat.zero_le _|exact ⟨_,rfl,WkV.int hk1⟩|exact ⟨_,rfl,WkV.int ew⟩|exact qaf lN|exact qaf lH|exact qce (qbw _ _ _) (by decide)|exact kle rfl|exact bdq|exact mxI rfl|exact mxS rfl|apply And.intro))⟩
     ·refine qac (qbt hk2) ?_
      conv => whnf
      refine .inl ?_
      conv => whnf
      have hkE:k = (gB (lnsB N H) i).length :=by omega
      have o1 :=@qdm N H i
      have o2 :=qbf hs (Nat.le_refl ([10]:List UInt8).length)
      have o3 :=qbf o1 o2
      have o4:(ouB (lnsB N H) i ++ (gB (lnsB N H) i ++ [10])).length ≤ 1000000 :=by simp only [List.length_cons,List.length_nil] at o3;omega
      repeat ((first|refine qaj (stOk (mil o2 rfl)) ?_|refine qai (stOk (mil o2 rfl)) ?_|refine pkT (stOk (mil o2 rfl)) ?_|refine qaa (stOk (mil o2 rfl)) ?_|refine qar (stOk (mil o2 rfl)) ?_|refine qas (stOk (mil o2 rfl)) ?_|refine pkF (stOk (mil o2 rfl)) ?_|refine qac (stOk (mil o2 rfl)) ?_|refine qaj (stOk o4) ?_|refine qai (stOk o4) ?_|refine pkT (stOk o4) ?_|refine qaa (stOk o4) ?_|refine qar (stOk o4) ?_|refine qas (stOk o4) ?_|refine pkF (stOk o4) ?_|refine qac (stOk o4) ?_|refine qad hS (by kernel_rfl) ?_);conv => whnf)
      exact ⟨i + 1,hi2,by omega,Nat.le_refl _,(by refine ⟨rfl,rfl,rfl,rfl,rfl,rfl,3,rfl,?_,?_⟩ <;> repeat' (first|exact trivial|exact rfl|exact wkr rfl|exact wko rfl|exact Nat.zero_le _|exact ⟨_,rfl,WkV.int hi1⟩|exact ⟨_,rfl,WkV.int (show Int.ofNat (ckN (lnsB N H) i + ckL (gB (lnsB N H) i) i k) = Int.ofNat (ckN (lnsB N H) (i + 1)) by rw [ckN,hkE])⟩|exact qaf lN|exact qaf lH|exact qce (qbw _ _ _) (by decide)|exact kle rfl|exact bdq|exact mxI rfl|exact mxS rfl|apply And.intro))⟩
   ·have hiE2:i = (lnsB N H).length :=by rw [qge];omega
    have t :=ql2 (ckN (lnsB N H) i)
    have hm :=Nat.mod_lt (ckN (lnsB N H) i) (show 0 < 127 by decide)
    have p1 :=qc5 t.1 (by omega)
    have p2 :=qc5 t.2.1 (by omega)
    have p3 :=qc5 t.2.2 (by omega)
    have o1 :=@qdm N H i
    have o2:(ouB (lnsB N H) i ++ [101,110,100,32]).length ≤ 10000 :=by rw [List.length_append];show _ + 4 ≤ _;omega
    have o3 :=qbf o2 (qb6 (ckN (lnsB N H) i % 127 / 100))
    have o4 :=qbf o3 (qb6 (ckN (lnsB N H) i % 127 / 10 % 10))
    have o5 :=qbf o4 (qb6 (ckN (lnsB N H) i % 127 % 10))
    have o6 :=qbf o5 (Nat.le_refl ([10]:List UInt8).length)
    refine qac (qbt hi2) ?_
    conv => whnf
    refine .inl ?_
    conv => whnf
    repeat ((first|refine qaj (stOk (mil o2 rfl)) ?_|refine qai (stOk (mil o2 rfl)) ?_|refine pkT (stOk (mil o2 rfl)) ?_|refine qaa (stOk (mil o2 rfl)) ?_|refine qar (stOk (mil o2 rfl)) ?_|refine qas (stOk (mil o2 rfl)) ?_|refine pkF (stOk (mil o2 rfl)) ?_|refine qac (stOk (mil o2 rfl)) ?_|refine qaj (stOk (mil o3 rfl)) ?_|refine qai (stOk (mil o3 rfl)) ?_|refine pkT (stOk (mil o3 rfl)) ?_|refine qaa (stOk (mil o3 rfl)) ?_|refine qar (stOk (mil o3 rfl)) ?_|refine qas (stOk (mil o3 rfl)) ?_|refine pkF (stOk (mil o3 rfl)) ?_|refine qac (stOk (mil o3 rfl)) ?_|refine qaj (stOk (mil o4 rfl)) ?_|refine qai (stOk (mil o4 rfl)) ?_|refine pkT (stOk (mil o4 rfl)) ?_|refine qaa (stOk (mil o4 rfl)) ?_|refine qar (stOk (mil o4 rfl)) ?_|refine qas (stOk (mil o4 rfl)) ?_|refine pkF (stOk (mil o4 rfl)) ?_|refine qac (stOk (mil o4 rfl)) ?_|refine qaj (stOk (mil o5 rfl)) ?_|refine qai (stOk (mil o5 rfl)) ?_|refine pkT (stOk (mil o5 rfl)) ?_|refine qaa (stOk (mil o5 rfl)) ?_|refine qar (stOk (mil o5 rfl)) ?_|refine qas (stOk (mil o5 rfl)) ?_|refine pkF (stOk (mil o5 rfl)) ?_|refine qac (stOk (mil o5 rfl)) ?_|refine qaj (stOk (mil o6 rfl)) ?_|refine qai (stOk (mil o6 rfl)) ?_|refine pkT (stOk (mil o6 rfl)) ?_|refine qaa (stOk (mil o6 rfl)) ?_|refine qar (stOk (mil o6 rfl)) ?_|refine qas (stOk (mil o6 rfl)) ?_|refine pkF (stOk (mil o6 rfl)) ?_|refine qac (stOk (mil o6 rfl)) ?_|refine qab hC (p1) ?_|refine qab hC (p2) ?_|refine qab hC (p3) ?_|refine qad hS (by kernel_rfl) ?_);conv => whnf)
    exact ⟨_,rfl,wk_s (by unfold prtB finB;rw [← hiE2])⟩
theorem qv2 {N:List Lk} {H:List Nat} (h:okT N H) (hN:N.length < 100) (hH0:H = []) (h1:1 ≤ N.length):Pure prog 90 [.agg [nkA N,.nils]] (.str (prtB N H)) :=by
 have lN :=qa5 (cL N)
 have hH:H.length ≤ 400 :=by rw [hH0];exact Nat.zero_le _
 refine qan hE rfl (by repeat' first|exact trivial|assumption|exact qae _|exact fun _ h => nomatch h|apply And.intro) (by repeat' first|exact trivial|assumption|exact qae _|exact fun _ h => nomatch h|apply And.intro) fun S q pc hS hq hC hE => ?_
 conv => whnf
 refine qah hE hS ?_
 conv => whnf
 repeat ((first|refine qal (takP (qju N h1)) ?_|refine qaj (qag h1) ?_|refine qai (qag h1) ?_|refine pkT (qag h1) ?_|refine qaa (qag h1) ?_|refine qar (qag h1) ?_|refine qas (qag h1) ?_|refine pkF (qag h1) ?_|refine qac (qag h1) ?_|refine qaj (qaq h1) ?_|refine qai (qaq h1) ?_|refine pkT (qaq h1) ?_|refine qaa (qaq h1) ?_|refine qad hS (by kernel_rfl) ?_);conv => whnf)
 refine qay hE hS (A :=Nat) [1,20,21] (fun i => [(3,.lst (rwA N.length (N.take i) []) (i + 1) (.ch 2)),(22,nv i)]) (fun i => [(2,.chain (i + 1) 1 196)]) (fun _ => []) (fun i => 1 ≤ i ∧ i ≤ N.length) (fun i => N.length - i) 1 (kle rfl) rfl (by refine ⟨rfl,rfl,rfl,rfl,rfl,rfl,3,rfl,?_,?_⟩ <;> repeat' (first|exact trivial|exact rfl|exact wkr rfl|exact wko rfl|exact Nat.zero_le _|exact ⟨_,rfl,WkV.int (qaz (m :=1) (by decide))⟩|exact ⟨_,rfl,WkV.eq (congrArg (fun z => AV.lst z 2 (.ch 2)) (qr4 N.length N h1))⟩|exact qaf lN|exact qaf lH|exact qce (qbw _ _ _) (by decide)|exact kle rfl|exact bdq|exact mxI rfl|exact mxS rfl|apply And.intro)) ⟨Nat.le_refl _,h1⟩ ?_
 intro i ⟨hi,hiN⟩ K hK
 obtain rfl:K = 3 :=hK
 conv => whnf
 by_cases hi2:i < N.length
 ·have hi1:IntKind.i64.wrap (Int.ofNat i + 1) = Int.ofNat (i + 1) :=qaz (m :=i + 1) (by omega)
  have d1:decide ((i + 1 + (0 + 1)) * 16 ≤ 140737488355328) = true :=decide_eq_true (by omega)
  have d2:decide (i + 1 + (0 + 1) ≤ 9223372036854775807) = true :=decide_eq_true (by omega)
  have d3 :=qgg (m :=N.length) (N :=N.take i) (H :=[]) (n :=i + 1) (by rw [List.length_take];simp only [List.length_nil];omega)
  have d4:decide (i + 1 = i + 1) = true :=decide_eq_true rfl
  repeat ((first|refine qal (takP (qju N hi2)) ?_|refine qaj (qag hi2) ?_|refine qai (qag hi2) ?_|refine pkT (qag hi2) ?_|refine qaa (qag hi2) ?_|refine qar (qag hi2) ?_|refine qas (qag hi2) ?_|refine pkF (qag hi2) ?_|refine qac (qag hi2) ?_|refine qaj (qaq hi2) ?_|refine qai (qaq hi2) ?_|refine pkT (qaq hi2) ?_|refine qaa (qaq hi2) ?_|refine qaj d1 ?_|refine qai d1 ?_|refine pkT d1 ?_|refine qaa d1 ?_|refine qaj d2 ?_|refine qai d2 ?_|refine pkT d2 ?_|refine qaa d2 ?_|refine qaj d3 ?_|refine qai d3 ?_|refine pkT d3 ?_|refine qaa d3 ?_|refine qar d3 ?_|refine qas d3 ?_|refine pkF d3 ?_|refine qac d3 ?_|refine qaj d4 ?_|refine qai d4 ?_|refine pkT d4 ?_|refine qaa d4 ?_|refine qad hS (by kernel_rfl) ?_);conv => whnf)
  exact ⟨i + 1,⟨by omega,hi2⟩,by omega,kle rfl,(by refine ⟨rfl,rfl,rfl,rfl,rfl,rfl,3,rfl,?_,?_⟩ <;> repeat' (first|exact trivial|exact rfl|exact wkr rfl|exact wko rfl|exact Nat.zero_le _|exact ⟨_,rfl,WkV.int hi1⟩|exact ⟨_,rfl,WkV.eq (congrArg (fun z => AV.lst z (i + 1 + 1) (.ch 2)) (qr4 N.length N hi2))⟩|exact qaf lN|exact qaf lH|exact qce (qbw _ _ _) (by decide)|exact kle rfl|exact bdq|exact mxI rfl|exact mxS rfl|apply And.intro))⟩
 ·refine qac (qbt hi2) ?_
  conv => whnf
  refine .inl ?_
  conv => whnf
  have hiE:i = N.length :=by omega
  have eR2:AV.lst (rwA N.length (N.take i) []) (i + 1) (.ch 2) = .lst (rwA N.length N H) (N.length + 1 + H.length) (.ch 2) :=by rw [hiE,List.take_length,hH0];rfl
  have eN2:Int.ofNat (i + 1) = Int.ofNat (N.length + 1 + H.length) :=by rw [hiE,hH0];rfl
  refine qah hE hS ?_
  conv => whnf
  repeat ((first|refine qad hS (by kernel_rfl) ?_);conv => whnf)
  refine qay hE hS (A :=Nat) [] (fun i => [(45,.lst (rwA N.length N H) (N.length + 1 + H.length) (.ch 2)),(46,nv (N.length + 1 + H.length)),(8,.str (ouB (lnsB N H) i)),(9,nv (ckN (lnsB N H) i)),(47,nv i)]) (fun _ => []) (fun _ => []) (fun i => i ≤ N.length + 1 + H.length) (fun i => N.length + 1 + H.length - i) 0 (kle rfl) rfl (by refine ⟨rfl,rfl,rfl,rfl,rfl,rfl,3,rfl,?_,?_⟩ <;> repeat' (first|exact trivial|exact rfl|exact wkr rfl|exact wko rfl|exact Nat.zero_le _|exact ⟨_,rfl,WkV.eq eR2⟩|exact ⟨_,rfl,WkV.int eN2⟩|exact qaf lN|exact qce (qbw _ _ _) (by decide)|exact kle rfl|exact bdq|exact mxI rfl|exact mxS rfl|apply And.intro)) (Nat.zero_le _) ?_
  intro i hi K hK
  obtain rfl:K = 3 :=hK
  conv => whnf
  by_cases hi2:i < N.length + 1 + H.length
  ·have hi1:IntKind.i64.wrap (Int.ofNat i + 1) = Int.ofNat (i + 1) :=qaz (m :=i + 1) (by omega)
   have hs :=@qhg N H i
   refine Or.elim (qf9 h hN hi2) (fun hr => ?_) fun hr => Or.elim hr (fun hr => Exists.elim hr fun x hr => ?_) fun hr => Exists.elim hr fun x hr => ?_
   all_goals
    have gr :=hr.1
    have pl :=hr.2
    have hw :=@qke N H i (by omega)
    repeat ((first|refine qal (nthP gr) ?_|refine qaj (qag hi2) ?_|refine qai (qag hi2) ?_|refine pkT (qag hi2) ?_|refine qaa (qag hi2) ?_|refine qar (qag hi2) ?_|refine qas (qag hi2) ?_|refine pkF (qag hi2) ?_|refine qac (qag hi2) ?_|refine qaj (qaq hi2) ?_|refine qai (qaq hi2) ?_|refine pkT (qaq hi2) ?_|refine qaa (qaq hi2) ?_|refine qab hC (pl) ?_|refine qad hS (by kernel_rfl) ?_);conv => whnf)
    refine qay hE hS (A :=Nat) [45,46,8,10,12,47,55] (fun k => [(9,nv (ckN (lnsB N H) i + ckL (gB (lnsB N H) i) i k)),(56,nv k)]) (fun _ => []) (fun _ => []) (fun k => k ≤ (gB (lnsB N H) i).length) (fun k => (gB (lnsB N H) i).length - k) 0 (kle rfl) rfl (by refine ⟨rfl,rfl,rfl,rfl,rfl,rfl,3,rfl,?_,?_⟩ <;> repeat' (first|exact trivial|exact rfl|exact wkr rfl|exact wko rfl|exact Nat.zero_le _|exact qaf lN|exact qce (qbw _ _ _) (by decide)|exact kle rfl|exact bdq|exact mxI rfl|exact mxS rfl|apply And.intro)) (Nat.zero_le _) ?_
    intro k hk K hK
    obtain rfl:K = 3 :=hK
    conv => whnf
    by_cases hk2:k < (gB (lnsB N H) i).length
    ·have hk1:IntKind.i64.wrap (Int.ofNat k + 1) = Int.ofNat (k + 1) :=qaz (m :=k + 1) (by omega)
     have hc :=qkf (s :=gB (lnsB N H) i) (i :=i) (k :=k) (by omega) (by omega)
     have hb:((gB (lnsB N H) i).getD k 0).toNat ≤ 256 :=Nat.le_of_lt (UInt8.toNat_lt _)
     have ew:_ = Int.ofNat (ckN (lnsB N H) i + ckL (gB (lnsB N H) i) i (k + 1)) :=(qjl (c :=ckN (lnsB N H) i + ckL (gB (lnsB N H) i) i k) (by omega) hb (show k ≤ 16 by omega) (show i < 1000 by omega)).trans (by rw [ckL,Nat.add_assoc])
     repeat ((first|refine qal (qhm hk2) ?_|refine qaj (qag hk2) ?_|refine qai (qag hk2) ?_|refine pkT (qag hk2) ?_|refine qaa (qag hk2) ?_|refine qar (qag hk2) ?_|refine qas (qag hk2) ?_|refine pkF (qag hk2) ?_|refine qac (qag hk2) ?_|refine qaj (qaq hk2) ?_|refine qai (qaq hk2) ?_|refine pkT (qaq hk2) ?_|refine qaa (qaq hk2) ?_|refine qad hS (by kernel_rfl) ?_);conv => whnf)
     exact ⟨k + 1,hk2,by omega,Nat.le_refl _,(by refine ⟨rfl,rfl,rfl,rfl,rfl,rfl,3,rfl,?_,?_⟩ <;> repeat' (first|exact trivial|exact rfl|exact wkr rfl|exact wko rfl|exact Nat.zero_le _|exact ⟨_,rfl,WkV.int hk1⟩|exact ⟨_,rfl,WkV.int ew⟩|exact qaf lN|exact qce (qbw _ _ _) (by decide)|exact kle rfl|exact bdq|exact mxI rfl|exact mxS rfl|apply And.intro))⟩
    ·refine qac (qbt hk2) ?_
     conv => whnf
     refine .inl ?_
     conv => whnf
     have hkE:k = (gB (lnsB N H) i).length :=by omega
     have o1 :=@qdm N H i
     have o2 :=qbf hs (Nat.le_refl ([10]:List UInt8).length)
     have o3 :=qbf o1 o2
     have o4:(ouB (lnsB N H) i ++ (gB (lnsB N H) i ++ [10])).length ≤ 1000000 :=by simp only [List.length_cons,List.length_nil] at o3;omega
     repeat ((first|refine qaj (stOk (mil o2 rfl)) ?_|refine qai (stOk (mil o2 rfl)) ?_|refine pkT (stOk (mil o2 rfl)) ?_|refine qaa (stOk (mil o2 rfl)) ?_|refine qar (stOk (mil o2 rfl)) ?_|refine qas (stOk (mil o2 rfl)) ?_|refine pkF (stOk (mil o2 rfl)) ?_|refine qac (stOk (mil o2 rfl)) ?_|refine qaj (stOk o4) ?_|refine qai (stOk o4) ?_|refine pkT (stOk o4) ?_|refine qaa (stOk o4) ?_|refine qar (stOk o4) ?_|refine qas (stOk o4) ?_|refine pkF (stOk o4) ?_|refine qac (stOk o4) ?_|refine qad hS (by kernel_rfl) ?_);conv => whnf)
     exact ⟨i + 1,hi2,by omega,Nat.le_refl _,(by refine ⟨rfl,rfl,rfl,rfl,rfl,rfl,3,rfl,?_,?_⟩ <;> repeat' (first|exact trivial|exact rfl|exact wkr rfl|exact wko rfl|exact Nat.zero_le _|exact ⟨_,rfl,WkV.int hi1⟩|exact ⟨_,rfl,WkV.int (show Int.ofNat (ckN (lnsB N H) i + ckL (gB (lnsB N H) i) i k) = Int.ofNat (ckN (lnsB N H) (i + 1)) by rw [ckN,hkE])⟩|exact qaf lN|exact qce (qbw _ _ _) (by decide)|exact kle rfl|exact bdq|exact mxI rfl|exact mxS rfl|apply And.intro))⟩
  ·have hiE2:i = (lnsB N H).length :=by rw [qge];omega
   have t :=ql2 (ckN (lnsB N H) i)
   have hm :=Nat.mod_lt (ckN (lnsB N H) i) (show 0 < 127 by decide)
   have p1 :=qc5 t.1 (by omega)
   have p2 :=qc5 t.2.1 (by omega)
   have p3 :=qc5 t.2.2 (by omega)
   have o1 :=@qdm N H i
   have o2:(ouB (lnsB N H) i ++ [101,110,100,32]).length ≤ 10000 :=by rw [List.length_append];show _ + 4 ≤ _;omega
   have o3 :=qbf o2 (qb6 (ckN (lnsB N H) i % 127 / 100))
   have o4 :=qbf o3 (qb6 (ckN (lnsB N H) i % 127 / 10 % 10))
   have o5 :=qbf o4 (qb6 (ckN (lnsB N H) i % 127 % 10))
   have o6 :=qbf o5 (Nat.le_refl ([10]:List UInt8).length)
   refine qac (qbt hi2) ?_
   conv => whnf
   refine .inl ?_
   conv => whnf
   repeat ((first|refine qaj (stOk (mil o2 rfl)) ?_|refine qai (stOk (mil o2 rfl)) ?_|refine pkT (stOk (mil o2 rfl)) ?_|refine qaa (stOk (mil o2 rfl)) ?_|refine qar (stOk (mil o2 rfl)) ?_|refine qas (stOk (mil o2 rfl)) ?_|refine pkF (stOk (mil o2 rfl)) ?_|refine qac (stOk (mil o2 rfl)) ?_|refine qaj (stOk (mil o3 rfl)) ?_|refine qai (stOk (mil o3 rfl)) ?_|refine pkT (stOk (mil o3 rfl)) ?_|refine qaa (stOk (mil o3 rfl)) ?_|refine qar (stOk (mil o3 rfl)) ?_|refine qas (stOk (mil o3 rfl)) ?_|refine pkF (stOk (mil o3 rfl)) ?_|refine qac (stOk (mil o3 rfl)) ?_|refine qaj (stOk (mil o4 rfl)) ?_|refine qai (stOk (mil o4 rfl)) ?_|refine pkT (stOk (mil o4 rfl)) ?_|refine qaa (stOk (mil o4 rfl)) ?_|refine qar (stOk (mil o4 rfl)) ?_|refine qas (stOk (mil o4 rfl)) ?_|refine pkF (stOk (mil o4 rfl)) ?_|refine qac (stOk (mil o4 rfl)) ?_|refine qaj (stOk (mil o5 rfl)) ?_|refine qai (stOk (mil o5 rfl)) ?_|refine pkT (stOk (mil o5 rfl)) ?_|refine qaa (stOk (mil o5 rfl)) ?_|refine qar (stOk (mil o5 rfl)) ?_|refine qas (stOk (mil o5 rfl)) ?_|refine pkF (stOk (mil o5 rfl)) ?_|refine qac (stOk (mil o5 rfl)) ?_|refine qaj (stOk (mil o6 rfl)) ?_|refine qai (stOk (mil o6 rfl)) ?_|refine pkT (stOk (mil o6 rfl)) ?_|refine qaa (stOk (mil o6 rfl)) ?_|refine qar (stOk (mil o6 rfl)) ?_|refine qas (stOk (mil o6 rfl)) ?_|refine pkF (stOk (mil o6 rfl)) ?_|refine qac (stOk (mil o6 rfl)) ?_|refine qab hC (p1) ?_|refine qab hC (p2) ?_|refine qab hC (p3) ?_|refine qad hS (by kernel_rfl) ?_);conv => whnf)
   exact ⟨_,rfl,wk_s (by unfold prtB finB;rw [← hiE2])⟩
theorem qv1 {N:List Lk} {H:List Nat} (h:okT N H) (hN0:N = []) (hH:H.length ≤ 400) (h1:1 ≤ H.length):Pure prog 90 [.agg [.nils,nl (zl H)]] (.str (prtB N H)) :=by
 have lH :=qau (zl H)
 have hN:N.length < 100 :=by rw [hN0];exact kle rfl
 have hjz:0 < (zl H).length :=by rw [qcc];exact h1
 have gj:nth (ivs (zl H)) (0 * 1) = some (nv (gn H 0)) :=(qcf (l :=zl H) (i :=0) hjz).trans (by rw [qi9 H h1])
 have eR:AV.lst (rwA 0 [] (H.take 0) ++ [rwH (gn H 0)]) 2 (.ch 1) = .lst (rwA N.length N (H.take 1)) (N.length + 1 + 1) (.ch 1) :=by rw [qub 0 [] H h1,hN0];rfl
 have eC:AObj.chain 2 1 196 = .chain (N.length + 1 + 1) 1 196 :=by rw [hN0];rfl
 refine qan hE rfl (by repeat' first|exact trivial|assumption|exact qae _|exact fun _ h => nomatch h|apply And.intro) (by repeat' first|exact trivial|assumption|exact qae _|exact fun _ h => nomatch h|apply And.intro) fun S q pc hS hq hC hE => ?_
 conv => whnf
 refine qah hE hS ?_
 conv => whnf
 repeat ((first|refine qad hS (by kernel_rfl) ?_);conv => whnf)
 refine qah hE hS ?_
 conv => whnf
 repeat ((first|refine qal (nthP gj) ?_|refine qaj (qag hjz) ?_|refine qai (qag hjz) ?_|refine pkT (qag hjz) ?_|refine qaa (qag hjz) ?_|refine qar (qag hjz) ?_|refine qas (qag hjz) ?_|refine pkF (qag hjz) ?_|refine qac (qag hjz) ?_|refine qaj (qaq hjz) ?_|refine qai (qaq hjz) ?_|refine pkT (qaq hjz) ?_|refine qaa (qaq hjz) ?_|refine qad hS (by kernel_rfl) ?_);conv => whnf)
 refine qay hE hS (A :=Nat) [1,33,34] (fun j => [(3,.lst (rwA N.length N (H.take j)) (N.length + 1 + j) (.ch 1)),(35,nv j)]) (fun j => [(1,.chain (N.length + 1 + j) 1 196)]) (fun _ => []) (fun j => j ≤ H.length) (fun j => H.length - j) 1 (kle rfl) rfl (by refine ⟨rfl,rfl,rfl,rfl,rfl,rfl,2,rfl,?_,?_⟩ <;> repeat' (first|exact trivial|exact rfl|exact wkr rfl|exact wko rfl|exact Nat.zero_le _|exact ⟨_,rfl,WkV.int (qaz (m :=1) (by decide))⟩|exact ⟨_,rfl,WkV.eq eR⟩|exact eC|exact qaf lH|exact qce (qbw _ _ _) (by decide)|exact kle rfl|exact bdq|exact mxI rfl|exact mxS rfl|apply And.intro)) h1 ?_
 intro j hj K hK
 obtain rfl:K = 2 :=hK
 conv => whnf
 by_cases hj2:j < H.length
 ·have hj1:IntKind.i64.wrap (Int.ofNat j + 1) = Int.ofNat (j + 1) :=qaz (m :=j + 1) (by omega)
  have hjz:j < (zl H).length :=by rw [qcc];exact hj2
  have gj:nth (ivs (zl H)) (j * 1) = some (nv (gn H j)) :=(qcf (l :=zl H) (i :=j) hjz).trans (by rw [qi9 H hj2])
  have d1:decide ((N.length + 1 + j + (0 + 1)) * 16 ≤ 140737488355328) = true :=decide_eq_true (by omega)
  have d2:decide (N.length + 1 + j + (0 + 1) ≤ 9223372036854775807) = true :=decide_eq_true (by omega)
  have d3 :=qgg (m :=N.length) (N :=N) (H :=H.take j) (n :=N.length + 1 + j) (by rw [List.length_take];omega)
  have d4:decide (N.length + 1 + j = N.length + 1 + j) = true :=decide_eq_true rfl
  repeat ((first|refine qal (nthP gj) ?_|refine qaj (qag hjz) ?_|refine qai (qag hjz) ?_|refine pkT (qag hjz) ?_|refine qaa (qag hjz) ?_|refine qar (qag hjz) ?_|refine qas (qag hjz) ?_|refine pkF (qag hjz) ?_|refine qac (qag hjz) ?_|refine qaj (qaq hjz) ?_|refine qai (qaq hjz) ?_|refine pkT (qaq hjz) ?_|refine qaa (qaq hjz) ?_|refine qaj d1 ?_|refine qai d1 ?_|refine pkT d1 ?_|refine qaa d1 ?_|refine qaj d2 ?_|refine qai d2 ?_|refine pkT d2 ?_|refine qaa d2 ?_|refine qaj d3 ?_|refine qai d3 ?_|refine pkT d3 ?_|refine qaa d3 ?_|refine qar d3 ?_|refine qas d3 ?_|refine pkF d3 ?_|refine qac d3 ?_|refine qaj d4 ?_|refine qai d4 ?_|refine pkT d4 ?_|refine qaa d4 ?_|refine qad hS (by kernel_rfl) ?_);conv => whnf)
  exact ⟨j + 1,hj2,by omega,kle rfl,(by refine ⟨rfl,rfl,rfl,rfl,rfl,rfl,2,rfl,?_,?_⟩ <;> repeat' (first|exact trivial|exact rfl|exact wkr rfl|exact wko rfl|exact Nat.zero_le _|exact ⟨_,rfl,WkV.int hj1⟩|exact ⟨_,rfl,WkV.eq (congrArg (fun z => AV.lst z (N.length + 1 + j + 1) (.ch 1)) (qub N.length N H hj2))⟩|exact qaf lH|exact qce (qbw _ _ _) (by decide)|exact kle rfl|exact bdq|exact mxI rfl|exact mxS rfl|apply And.intro))⟩
 ·refine qac (qbt (show ¬ j < (zl H).length by rw [qcc];exact hj2)) ?_
  conv => whnf
  refine .inl ?_
  conv => whnf
  have hjE:j = H.length :=by omega
  have eR2:AV.lst (rwA N.length N (H.take j)) (N.length + 1 + j) (.ch 1) = .lst (rwA N.length N H) (N.length + 1 + H.length) (.ch 1) :=by rw [hjE,List.take_length]
  have eN2:Int.ofNat (N.length + 1 + j) = Int.ofNat (N.length + 1 + H.length) :=by rw [hjE]
  refine qay hE hS (A :=Nat) [] (fun i => [(45,.lst (rwA N.length N H) (N.length + 1 + H.length) (.ch 1)),(46,nv (N.length + 1 + H.length)),(8,.str (ouB (lnsB N H) i)),(9,nv (ckN (lnsB N H) i)),(47,nv i)]) (fun _ => []) (fun _ => []) (fun i => i ≤ N.length + 1 + H.length) (fun i => N.length + 1 + H.length - i) 0 (kle rfl) rfl (by refine ⟨rfl,rfl,rfl,rfl,rfl,rfl,2,rfl,?_,?_⟩ <;> repeat' (first|exact trivial|exact rfl|exact wkr rfl|exact wko rfl|exact Nat.zero_le _|exact ⟨_,rfl,WkV.eq eR2⟩|exact ⟨_,rfl,WkV.int eN2⟩|exact qaf lH|exact qce (qbw _ _ _) (by decide)|exact kle rfl|exact bdq|exact mxI rfl|exact mxS rfl|apply And.intro)) (Nat.zero_le _) ?_
  intro i hi K hK
  obtain rfl:K = 2 :=hK
  conv => whnf
  by_cases hi2:i < N.length + 1 + H.length
  ·have hi1:IntKind.i64.wrap (Int.ofNat i + 1) = Int.ofNat (i + 1) :=qaz (m :=i + 1) (by omega)
   have hs :=@qhg N H i
   refine Or.elim (qf9 h hN hi2) (fun hr => ?_) fun hr => Or.elim hr (fun hr => Exists.elim hr fun x hr => ?_) fun hr => Exists.elim hr fun x hr => ?_
   all_goals
    have gr :=hr.1
    have pl :=hr.2
    have hw :=@qke N H i (by omega)
    repeat ((first|refine qal (nthP gr) ?_|refine qaj (qag hi2) ?_|refine qai (qag hi2) ?_|refine pkT (qag hi2) ?_|refine qaa (qag hi2) ?_|refine qar (qag hi2) ?_|refine qas (qag hi2) ?_|refine pkF (qag hi2) ?_|refine qac (qag hi2) ?_|refine qaj (qaq hi2) ?_|refine qai (qaq hi2) ?_|refine pkT (qaq hi2) ?_|refine qaa (qaq hi2) ?_|refine qab hC (pl) ?_|refine qad hS (by kernel_rfl) ?_);conv => whnf)
    refine qay hE hS (A :=Nat) [45,46,8,10,12,47,55] (fun k => [(9,nv (ckN (lnsB N H) i + ckL (gB (lnsB N H) i) i k)),(56,nv k)]) (fun _ => []) (fun _ => []) (fun k => k ≤ (gB (lnsB N H) i).length) (fun k => (gB (lnsB N H) i).length - k) 0 (kle rfl) rfl (by refine ⟨rfl,rfl,rfl,rfl,rfl,rfl,2,rfl,?_,?_⟩ <;> repeat' (first|exact trivial|exact rfl|exact wkr rfl|exact wko rfl|exact Nat.zero_le _|exact qaf lH|exact qce (qbw _ _ _) (by decide)|exact kle rfl|exact bdq|exact mxI rfl|exact mxS rfl|apply And.intro)) (Nat.zero_le _) ?_
    intro k hk K hK
    obtain rfl:K = 2 :=hK
    conv => whnf
    by_cases hk2:k < (gB (lnsB N H) i).length
    ·have hk1:IntKind.i64.wrap (Int.ofNat k + 1) = Int.ofNat (k + 1) :=qaz (m :=k + 1) (by omega)
     have hc :=qkf (s :=gB (lnsB N H) i) (i :=i) (k :=k) (by omega) (by omega)
     have hb:((gB (lnsB N H) i).getD k 0).toNat ≤ 256 :=Nat.le_of_lt (UInt8.toNat_lt _)
     have ew:_ = Int.ofNat (ckN (lnsB N H) i + ckL (gB (lnsB N H) i) i (k + 1)) :=(qjl (c :=ckN (lnsB N H) i + ckL (gB (lnsB N H) i) i k) (by omega) hb (show k ≤ 16 by omega) (show i < 1000 by omega)).trans (by rw [ckL,Nat.add_assoc])
     repeat ((first|refine qal (qhm hk2) ?_|refine qaj (qag hk2) ?_|refine qai (qag hk2) ?_|refine pkT (qag hk2) ?_|refine qaa (qag hk2) ?_|refine qar (qag hk2) ?_|refine qas (qag hk2) ?_|refine pkF (qag hk2) ?_|refine qac (qag hk2) ?_|refine qaj (qaq hk2) ?_|refine qai (qaq hk2) ?_|refine pkT (qaq hk2) ?_|refine qaa (qaq hk2) ?_|refine qad hS (by kernel_rfl) ?_);conv => whnf)
     exact ⟨k + 1,hk2,by omega,Nat.le_refl _,(by refine ⟨rfl,rfl,rfl,rfl,rfl,rfl,2,rfl,?_,?_⟩ <;> repeat' (first|exact trivial|exact rfl|exact wkr rfl|exact wko rfl|exact Nat.zero_le _|exact ⟨_,rfl,WkV.int hk1⟩|exact ⟨_,rfl,WkV.int ew⟩|exact qaf lH|exact qce (qbw _ _ _) (by decide)|exact kle rfl|exact bdq|exact mxI rfl|exact mxS rfl|apply And.intro))⟩
    ·refine qac (qbt hk2) ?_
     conv => whnf
     refine .inl ?_
     conv => whnf
     have hkE:k = (gB (lnsB N H) i).length :=by omega
     have o1 :=@qdm N H i
     have o2 :=qbf hs (Nat.le_refl ([10]:List UInt8).length)
     have o3 :=qbf o1 o2
     have o4:(ouB (lnsB N H) i ++ (gB (lnsB N H) i ++ [10])).length ≤ 1000000 :=by simp only [List.length_cons,List.length_nil] at o3;omega
     repeat ((first|refine qaj (stOk (mil o2 rfl)) ?_|refine qai (stOk (mil o2 rfl)) ?_|refine pkT (stOk (mil o2 rfl)) ?_|refine qaa (stOk (mil o2 rfl)) ?_|refine qar (stOk (mil o2 rfl)) ?_|refine qas (stOk (mil o2 rfl)) ?_|refine pkF (stOk (mil o2 rfl)) ?_|refine qac (stOk (mil o2 rfl)) ?_|refine qaj (stOk o4) ?_|refine qai (stOk o4) ?_|refine pkT (stOk o4) ?_|refine qaa (stOk o4) ?_|refine qar (stOk o4) ?_|refine qas (stOk o4) ?_|refine pkF (stOk o4) ?_|refine qac (stOk o4) ?_|refine qad hS (by kernel_rfl) ?_);conv => whnf)
     exact ⟨i + 1,hi2,by omega,Nat.le_refl _,(by refine ⟨rfl,rfl,rfl,rfl,rfl,rfl,2,rfl,?_,?_⟩ <;> repeat' (first|exact trivial|exact rfl|exact wkr rfl|exact wko rfl|exact Nat.zero_le _|exact ⟨_,rfl,WkV.int hi1⟩|exact ⟨_,rfl,WkV.int (show Int.ofNat (ckN (lnsB N H) i + ckL (gB (lnsB N H) i) i k) = Int.ofNat (ckN (lnsB N H) (i + 1)) by rw [ckN,hkE])⟩|exact qaf lH|exact qce (qbw _ _ _) (by decide)|exact kle rfl|exact bdq|exact mxI rfl|exact mxS rfl|apply And.intro))⟩
  ·have hiE2:i = (lnsB N H).length :=by rw [qge];omega
   have t :=ql2 (ckN (lnsB N H) i)
   have hm :=Nat.mod_lt (ckN (lnsB N H) i) (show 0 < 127 by decide)
   have p1 :=qc5 t.1 (by omega)
   have p2 :=qc5 t.2.1 (by omega)
   have p3 :=qc5 t.2.2 (by omega)
   have o1 :=@qdm N H i
   have o2:(ouB (lnsB N H) i ++ [101,110,100,32]).length ≤ 10000 :=by rw [List.length_append];show _ + 4 ≤ _;omega
   have o3 :=qbf o2 (qb6 (ckN (lnsB N H) i % 127 / 100))
   have o4 :=qbf o3 (qb6 (ckN (lnsB N H) i % 127 / 10 % 10))
   have o5 :=qbf o4 (qb6 (ckN (lnsB N H) i % 127 % 10))
   have o6 :=qbf o5 (Nat.le_refl ([10]:List UInt8).length)
   refine qac (qbt hi2) ?_
   conv => whnf
   refine .inl ?_
   conv => whnf
   repeat ((first|refine qaj (stOk (mil o2 rfl)) ?_|refine qai (stOk (mil o2 rfl)) ?_|refine pkT (stOk (mil o2 rfl)) ?_|refine qaa (stOk (mil o2 rfl)) ?_|refine qar (stOk (mil o2 rfl)) ?_|refine qas (stOk (mil o2 rfl)) ?_|refine pkF (stOk (mil o2 rfl)) ?_|refine qac (stOk (mil o2 rfl)) ?_|refine qaj (stOk (mil o3 rfl)) ?_|refine qai (stOk (mil o3 rfl)) ?_|refine pkT (stOk (mil o3 rfl)) ?_|refine qaa (stOk (mil o3 rfl)) ?_|refine qar (stOk (mil o3 rfl)) ?_|refine qas (stOk (mil o3 rfl)) ?_|refine pkF (stOk (mil o3 rfl)) ?_|refine qac (stOk (mil o3 rfl)) ?_|refine qaj (stOk (mil o4 rfl)) ?_|refine qai (stOk (mil o4 rfl)) ?_|refine pkT (stOk (mil o4 rfl)) ?_|refine qaa (stOk (mil o4 rfl)) ?_|refine qar (stOk (mil o4 rfl)) ?_|refine qas (stOk (mil o4 rfl)) ?_|refine pkF (stOk (mil o4 rfl)) ?_|refine qac (stOk (mil o4 rfl)) ?_|refine qaj (stOk (mil o5 rfl)) ?_|refine qai (stOk (mil o5 rfl)) ?_|refine pkT (stOk (mil o5 rfl)) ?_|refine qaa (stOk (mil o5 rfl)) ?_|refine qar (stOk (mil o5 rfl)) ?_|refine qas (stOk (mil o5 rfl)) ?_|refine pkF (stOk (mil o5 rfl)) ?_|refine qac (stOk (mil o5 rfl)) ?_|refine qaj (stOk (mil o6 rfl)) ?_|refine qai (stOk (mil o6 rfl)) ?_|refine pkT (stOk (mil o6 rfl)) ?_|refine qaa (stOk (mil o6 rfl)) ?_|refine qar (stOk (mil o6 rfl)) ?_|refine qas (stOk (mil o6 rfl)) ?_|refine pkF (stOk (mil o6 rfl)) ?_|refine qac (stOk (mil o6 rfl)) ?_|refine qab hC (p1) ?_|refine qab hC (p2) ?_|refine qab hC (p3) ?_|refine qad hS (by kernel_rfl) ?_);conv => whnf)
   exact ⟨_,rfl,wk_s (by unfold prtB finB;rw [← hiE2])⟩
theorem qv0 {N:List Lk} {H:List Nat} (hN0:N = []) (hH0:H = []):Pure prog 90 [.agg [.nils,.nils]] (.str (prtB N H)) :=by
 have h:okT N H :=by rw [hN0,hH0];exact ⟨(fun _ h => nomatch h),(fun _ h => nomatch h)⟩
 have hN:N.length < 100 :=by rw [hN0];exact kle rfl
 have hH:H.length ≤ 400 :=by rw [hH0];exact Nat.zero_le _
 have eR2:AV.lst (rwA 0 [] []) 1 .full = .lst (rwA N.length N H) (N.length + 1 + H.length) .full :=by rw [hN0,hH0];rfl
 have eN2:Int.ofNat 1 = Int.ofNat (N.length + 1 + H.length) :=by rw [hN0,hH0];rfl
 refine qan hE rfl (by repeat' first|exact trivial|assumption|exact qae _|exact fun _ h => nomatch h|apply And.intro) (by repeat' first|exact trivial|assumption|exact qae _|exact fun _ h => nomatch h|apply And.intro) fun S q pc hS hq hC hE => ?_
 conv => whnf
 refine qah hE hS ?_
 conv => whnf
 repeat ((first|refine qad hS (by kernel_rfl) ?_);conv => whnf)
 refine qah hE hS ?_
 conv => whnf
 repeat ((first|refine qad hS (by kernel_rfl) ?_);conv => whnf)
 refine qay hE hS (A :=Nat) [] (fun i => [(45,.lst (rwA N.length N H) (N.length + 1 + H.length) .full),(46,nv (N.length + 1 + H.length)),(8,.str (ouB (lnsB N H) i)),(9,nv (ckN (lnsB N H) i)),(47,nv i)]) (fun _ => []) (fun _ => []) (fun i => i ≤ N.length + 1 + H.length) (fun i => N.length + 1 + H.length - i) 0 (kle rfl) rfl (by refine ⟨rfl,rfl,rfl,rfl,rfl,rfl,1,rfl,?_,?_⟩ <;> repeat' (first|exact trivial|exact rfl|exact wkr rfl|exact wko rfl|exact Nat.zero_le _|exact ⟨_,rfl,WkV.eq eR2⟩|exact ⟨_,rfl,WkV.int eN2⟩|exact qaf (qbw _ _ _)|exact kle rfl|exact bdq|exact mxI rfl|exact mxS rfl|apply And.intro)) (Nat.zero_le _) ?_
 intro i hi K hK
 obtain rfl:K = 1 :=hK
 conv => whnf
 by_cases hi2:i < N.length + 1 + H.length
 ·have hi1:IntKind.i64.wrap (Int.ofNat i + 1) = Int.ofNat (i + 1) :=qaz (m :=i + 1) (by omega)
  have hs :=@qhg N H i
  refine Or.elim (qf9 h hN hi2) (fun hr => ?_) fun hr => Or.elim hr (fun hr => Exists.elim hr fun x hr => ?_) fun hr => Exists.elim hr fun x hr => ?_
  all_goals
   have gr :=hr.1
   have pl :=hr.2
   have hw :=@qke N H i (by omega)
   repeat ((first|refine qal (nthP gr) ?_|refine qaj (qag hi2) ?_|refine qai (qag hi2) ?_|refine pkT (qag hi2) ?_|refine qaa (qag hi2) ?_|refine qar (qag hi2) ?_|refine qas (qag hi2) ?_|refine pkF (qag hi2) ?_|refine qac (qag hi2) ?_|refine qaj (qaq hi2) ?_|refine qai (qaq hi2) ?_|refine pkT (qaq hi2) ?_|refine qaa (qaq hi2) ?_|refine qab hC (pl) ?_|refine qad hS (by kernel_rfl) ?_);conv => whnf)
   refine qay hE hS (A :=Nat) [45,46,8,10,12,47,55] (fun k => [(9,nv (ckN (lnsB N H) i + ckL (gB (lnsB N H) i) i k)),(56,nv k)]) (fun _ => []) (fun _ => []) (fun k => k ≤ (gB (lnsB N H) i).length) (fun k => (gB (lnsB N H) i).length - k) 0 (kle rfl) rfl (by refine ⟨rfl,rfl,rfl,rfl,rfl,rfl,1,rfl,?_,?_⟩ <;> repeat' (first|exact trivial|exact rfl|exact wkr rfl|exact wko rfl|exact Nat.zero_le _|exact qaf (qbw _ _ _)|exact kle rfl|exact bdq|exact mxI rfl|exact mxS rfl|apply And.intro)) (Nat.zero_le _) ?_
   intro k hk K hK
   obtain rfl:K = 1 :=hK
   conv => whnf
   by_cases hk2:k < (gB (lnsB N H) i).length
   ·have hk1:IntKind.i64.wrap (Int.ofNat k + 1) = Int.ofNat (k + 1) :=qaz (m :=k + 1) (by omega)
    have hc :=qkf (s :=gB (lnsB N H) i) (i :=i) (k :=k) (by omega) (by omega)
    have hb:((gB (lnsB N H) i).getD k 0).toNat ≤ 256 :=Nat.le_of_lt (UInt8.toNat_lt _)
    have ew:_ = Int.ofNat (ckN (lnsB N H) i + ckL (gB (lnsB N H) i) i (k + 1)) :=(qjl (c :=ckN (lnsB N H) i + ckL (gB (lnsB N H) i) i k) (by omega) hb (show k ≤ 16 by omega) (show i < 1000 by omega)).trans (by rw [ckL,Nat.add_assoc])
    repeat ((first|refine qal (qhm hk2) ?_|refine qaj (qag hk2) ?_|refine qai (qag hk2) ?_|refine pkT (qag hk2) ?_|refine qaa (qag hk2) ?_|refine qar (qag hk2) ?_|refine qas (qag hk2) ?_|refine pkF (qag hk2) ?_|refine qac (qag hk2) ?_|refine qaj (qaq hk2) ?_|refine qai (qaq hk2) ?_|refine pkT (qaq hk2) ?_|refine qaa (qaq hk2) ?_|refine qad hS (by kernel_rfl) ?_);conv => whnf)
    exact ⟨k + 1,hk2,by omega,Nat.le_refl _,(by refine ⟨rfl,rfl,rfl,rfl,rfl,rfl,1,rfl,?_,?_⟩ <;> repeat' (first|exact trivial|exact rfl|exact wkr rfl|exact wko rfl|exact Nat.zero_le _|exact ⟨_,rfl,WkV.int hk1⟩|exact ⟨_,rfl,WkV.int ew⟩|exact qaf (qbw _ _ _)|exact kle rfl|exact bdq|exact mxI rfl|exact mxS rfl|apply And.intro))⟩
   ·refine qac (qbt hk2) ?_
    conv => whnf
    refine .inl ?_
    conv => whnf
    have hkE:k = (gB (lnsB N H) i).length :=by omega
    have o1 :=@qdm N H i
    have o2 :=qbf hs (Nat.le_refl ([10]:List UInt8).length)
    have o3 :=qbf o1 o2
    have o4:(ouB (lnsB N H) i ++ (gB (lnsB N H) i ++ [10])).length ≤ 1000000 :=by simp only [List.length_cons,List.length_nil] at o3;omega
    repeat ((first|refine qaj (stOk (mil o2 rfl)) ?_|refine qai (stOk (mil o2 rfl)) ?_|refine pkT (stOk (mil o2 rfl)) ?_|refine qaa (stOk (mil o2 rfl)) ?_|refine qar (stOk (mil o2 rfl)) ?_|refine qas (stOk (mil o2 rfl)) ?_|refine pkF (stOk (mil o2 rfl)) ?_|refine qac (stOk (mil o2 rfl)) ?_|refine qaj (stOk o4) ?_|refine qai (stOk o4) ?_|refine pkT (stOk o4) ?_|refine qaa (stOk o4) ?_|refine qar (stOk o4) ?_|refine qas (stOk o4) ?_|refine pkF (stOk o4) ?_|refine qac (stOk o4) ?_|refine qad hS (by kernel_rfl) ?_);conv => whnf)
    exact ⟨i + 1,hi2,by omega,Nat.le_refl _,(by refine ⟨rfl,rfl,rfl,rfl,rfl,rfl,1,rfl,?_,?_⟩ <;> repeat' (first|exact trivial|exact rfl|exact wkr rfl|exact wko rfl|exact Nat.zero_le _|exact ⟨_,rfl,WkV.int hi1⟩|exact ⟨_,rfl,WkV.int (show Int.ofNat (ckN (lnsB N H) i + ckL (gB (lnsB N H) i) i k) = Int.ofNat (ckN (lnsB N H) (i + 1)) by rw [ckN,hkE])⟩|exact qaf (qbw _ _ _)|exact kle rfl|exact bdq|exact mxI rfl|exact mxS rfl|apply And.intro))⟩
 ·have hiE2:i = (lnsB N H).length :=by rw [qge];omega
  have t :=ql2 (ckN (lnsB N H) i)
  have hm :=Nat.mod_lt (ckN (lnsB N H) i) (show 0 < 127 by decide)
  have p1 :=qc5 t.1 (by omega)
  have p2 :=qc5 t.2.1 (by omega)
  have p3 :=qc5 t.2.2 (by omega)
  have o1 :=@qdm N H i
  have o2:(ouB (lnsB N H) i ++ [101,110,100,32]).length ≤ 10000 :=by rw [List.length_append];show _ + 4 ≤ _;omega
  have o3 :=qbf o2 (qb6 (ckN (lnsB N H) i % 127 / 100))
  have o4 :=qbf o3 (qb6 (ckN (lnsB N H) i % 127 / 10 % 10))
  have o5 :=qbf o4 (qb6 (ckN (lnsB N H) i % 127 % 10))
  have o6 :=qbf o5 (Nat.le_refl ([10]:List UInt8).length)
  refine qac (qbt hi2) ?_
  conv => whnf
  refine .inl ?_
  conv => whnf
  repeat ((first|refine qaj (stOk (mil o2 rfl)) ?_|refine qai (stOk (mil o2 rfl)) ?_|refine pkT (stOk (mil o2 rfl)) ?_|refine qaa (stOk (mil o2 rfl)) ?_|refine qar (stOk (mil o2 rfl)) ?_|refine qas (stOk (mil o2 rfl)) ?_|refine pkF (stOk (mil o2 rfl)) ?_|refine qac (stOk (mil o2 rfl)) ?_|refine qaj (stOk (mil o3 rfl)) ?_|refine qai (stOk (mil o3 rfl)) ?_|refine pkT (stOk (mil o3 rfl)) ?_|refine qaa (stOk (mil o3 rfl)) ?_|refine qar (stOk (mil o3 rfl)) ?_|refine qas (stOk (mil o3 rfl)) ?_|refine pkF (stOk (mil o3 rfl)) ?_|refine qac (stOk (mil o3 rfl)) ?_|refine qaj (stOk (mil o4 rfl)) ?_|refine qai (stOk (mil o4 rfl)) ?_|refine pkT (stOk (mil o4 rfl)) ?_|refine qaa (stOk (mil o4 rfl)) ?_|refine qar (stOk (mil o4 rfl)) ?_|refine qas (stOk (mil o4 rfl)) ?_|refine pkF (stOk (mil o4 rfl)) ?_|refine qac (stOk (mil o4 rfl)) ?_|refine qaj (stOk (mil o5 rfl)) ?_|refine qai (stOk (mil o5 rfl)) ?_|refine pkT (stOk (mil o5 rfl)) ?_|refine qaa (stOk (mil o5 rfl)) ?_|refine qar (stOk (mil o5 rfl)) ?_|refine qas (stOk (mil o5 rfl)) ?_|refine pkF (stOk (mil o5 rfl)) ?_|refine qac (stOk (mil o5 rfl)) ?_|refine qaj (stOk (mil o6 rfl)) ?_|refine qai (stOk (mil o6 rfl)) ?_|refine pkT (stOk (mil o6 rfl)) ?_|refine qaa (stOk (mil o6 rfl)) ?_|refine qar (stOk (mil o6 rfl)) ?_|refine qas (stOk (mil o6 rfl)) ?_|refine pkF (stOk (mil o6 rfl)) ?_|refine qac (stOk (mil o6 rfl)) ?_|refine qab hC (p1) ?_|refine qab hC (p2) ?_|refine qab hC (p3) ?_|refine qad hS (by kernel_rfl) ?_);conv => whnf)
  exact ⟨_,rfl,wk_s (by unfold prtB finB;rw [← hiE2])⟩
theorem qjs {N:List Lk} {H:List Nat} {x y:AV} (h:okT N H) (hN:N.length < 100) (hH:H.length ≤ 400) (hx:x = .nils ∧ N = [] ∨ x = nkA N ∧ N ≠ []) (hy:y = .nils ∧ H = [] ∨ y = nl (zl H) ∧ H ≠ []):Pure prog 90 [.agg [x,y]] (.str (prtB N H)) :=by
 rcases hx with ⟨rfl,e1⟩ | ⟨rfl,e1⟩ <;> rcases hy with ⟨rfl,e2⟩ | ⟨rfl,e2⟩
 ·exact qv0 e1 e2
 ·exact qv1 h e1 hH (List.length_pos_iff.2 e2)
 ·exact qv2 h hN e2 (List.length_pos_iff.2 e1)
 ·exact qv3 h hN hH (List.length_pos_iff.2 e1)
end
end Go.Abs.Seat
namespace Go.Abs.Seat
noncomputable section
open Go Go.Abs Go.Proofs.Tryz
set_option maxRecDepth 100000
set_option maxHeartbeats 40000000
attribute [local irreducible] IntKind.wrap pEq Utf8.decode
def noP (s:List UInt8):List (AV × Bool) :=[(.iface 145 (.agg [.str s]),false)]
theorem qdd (s:List UInt8):Pure prog 144 [.bool true,.str s] (.tup []) :=by
 refine qan hE rfl (by repeat' first|exact trivial|assumption|exact qae _|exact fun _ h => nomatch h|apply And.intro) (by repeat' first|exact trivial|assumption|exact qae _|exact fun _ h => nomatch h|apply And.intro) fun S q pc hS hq hC hE => ?_
 conv => whnf
 exact ⟨_,rfl,Wk.refl _⟩
theorem qfy (s:List UInt8):qb7 prog 144 [.bool false,.str s] (noP s) :=by
 refine qa8 hE rfl (by repeat' first|exact trivial|assumption|exact qae _|exact fun _ h => nomatch h|apply And.intro) (by simp [noP,Live,Lives]) fun S q pc hS hq hC hE => ?_
 conv => whnf
 rfl
theorem qdj {t:Bool} (h:t = true) (s:List UInt8):Pure prog 144 [.bool t,.str s] (.tup []) :=by subst h;exact qdd s
theorem qdx {t:Bool} (h:t = false) (s:List UInt8):qb7 prog 144 [.bool t,.str s] (noP s) :=by subst h;exact qfy s
theorem nx_f {p n:Nat} {a b:Plan} (h:decide (p < n) = false):(match decide (p < n) with | true => a | false => b) = b :=by rw [h]
theorem nx_t {p n:Nat} {a b:Plan} (h:decide (p < n) = true):(match decide (p < n) with | true => a | false => b) = a :=by rw [h]
theorem qcs {l:List UInt8} {p:Nat} (_h:p < l.length) (hb:(l.getD p 0).toNat < 128):Utf8.decode ⟨l.toArray⟩ p = ((l.getD p 0).toNat,1) :=by
 have e:(ByteArray.mk l.toArray).get! (p + 0) = l.getD p 0 :=by
  simp [ByteArray.get!,List.getD]
  rfl
 unfold Utf8.decode
 simp only [e,if_pos hb]
theorem qrg {l:List UInt8} {p:Nat} (_h:p < l.length) (hb:¬ (l.getD p 0).toNat < 128):128 ≤ (Utf8.decode ⟨l.toArray⟩ p).1 :=by
 have e:(ByteArray.mk l.toArray).get! (p + 0) = l.getD p 0 :=by
  simp [ByteArray.get!,List.getD]
  rfl
 unfold Utf8.decode
 simp only [e,if_neg hb]
 have r:128 ≤ Utf8.runeError :=by decide
 split
 ·split
  ·simpa using ‹_›
  ·exact r
 ·split
  ·split
   ·rename_i h1
    simp only [Bool.and_eq_true,decide_eq_true_eq] at h1
    exact Nat.le_trans (by decide) h1.1
   ·exact r
  ·split
   ·split
    ·rename_i h1
     simp only [Bool.and_eq_true,decide_eq_true_eq] at h1
     exact Nat.le_trans (by decide) h1.1
    ·exact r
   ·exact r
theorem num0:qb7 prog 159 [.str []] (noP []) :=by
 refine qa8 hE rfl (by repeat' first|exact trivial|assumption|exact qae _|exact fun _ h => nomatch h|apply And.intro) (by simp [noP,Live,Lives]) fun S q pc hS hq hC hE => ?_
 conv => whnf
 refine qah hE hS ?_
 conv => whnf
 repeat ((first|refine qad hS (by kernel_rfl) ?_);conv => whnf)
 refine qap hC ?_
 conv => whnf
 refine qa0 hS (qfy []) ?_
 conv => whnf
theorem qkd {l:List UInt8} {p:Nat} (h:p < l.length):(48 ≤ (l.getD p 0).toNat ∧ (l.getD p 0).toNat ≤ 57 ∧ Utf8.decode ⟨l.toArray⟩ p = ((l.getD p 0).toNat,1)) ∨ ¬ (48 ≤ (l.getD p 0).toNat ∧ (l.getD p 0).toNat ≤ 57) ∧ ¬ (48 ≤ (Utf8.decode ⟨l.toArray⟩ p).1 ∧ (Utf8.decode ⟨l.toArray⟩ p).1 ≤ 57) :=by
 by_cases hb:(l.getD p 0).toNat < 128
 ·have e :=qcs h hb
  by_cases c:48 ≤ (l.getD p 0).toNat ∧ (l.getD p 0).toNat ≤ 57
  ·exact .inl ⟨c.1,c.2,e⟩
  ·exact .inr ⟨c,by rw [e];exact c⟩
 ·have e :=qrg h hb
  exact .inr ⟨fun z => by omega,fun z => by omega⟩
theorem numX {b:UInt8} {r:List UInt8} (h:¬ (48 ≤ b.toNat ∧ b.toNat ≤ 57)):qb7 prog 159 [.str (b :: r)] (noP (b :: r)) :=by
 have hd:¬ (48 ≤ (Utf8.decode ⟨(b :: r).toArray⟩ 0).1 ∧ (Utf8.decode ⟨(b :: r).toArray⟩ 0).1 ≤ 57) :=by
  rcases qkd (l :=b :: r) (p :=0) (Nat.succ_pos _) with k | k
  ·exact absurd ⟨k.1,k.2.1⟩ h
  ·exact k.2
 have lS:Lives noL [AV.str (b :: r)] :=⟨trivial,trivial⟩
 by_cases h1:48 ≤ (Utf8.decode ⟨(b :: r).toArray⟩ 0).1
 ·have t1:decide (Int.ofNat (Utf8.decode ⟨(b :: r).toArray⟩ 0).1 ≥ 48) = true :=decide_eq_true (by simp only [Int.ofNat_eq_natCast];omega)
  have t2:decide (Int.ofNat (Utf8.decode ⟨(b :: r).toArray⟩ 0).1 ≤ 57) = false :=decide_eq_false (by simp only [Int.ofNat_eq_natCast];omega)
  refine qa8 hE rfl (by repeat' first|exact trivial|assumption|exact qae _|exact fun _ h => nomatch h|apply And.intro) (by simp [noP,Live,Lives]) fun S q pc hS hq hC hE => ?_
  conv => whnf
  refine qah hE hS ?_
  conv => whnf
  repeat ((first|refine qaj t1 ?_|refine qai t1 ?_|refine pkT t1 ?_|refine qaa t1 ?_|refine qaj (qaw t1) ?_|refine qai (qaw t1) ?_|refine pkT (qaw t1) ?_|refine qaa (qaw t1) ?_|refine qar t2 ?_|refine qas t2 ?_|refine pkF t2 ?_|refine qac t2 ?_|refine qar (qba t2) ?_|refine qas (qba t2) ?_|refine pkF (qba t2) ?_|refine qac (qba t2) ?_|refine qad hS (by kernel_rfl) ?_);conv => whnf)
  refine qap hC ?_
  conv => whnf
  refine qa0 hS (qfy _) ?_
  conv => whnf
 ·have t1:decide (Int.ofNat (Utf8.decode ⟨(b :: r).toArray⟩ 0).1 ≥ 48) = false :=decide_eq_false (by simp only [Int.ofNat_eq_natCast];omega)
  refine qa8 hE rfl (by repeat' first|exact trivial|assumption|exact qae _|exact fun _ h => nomatch h|apply And.intro) (by simp [noP,Live,Lives]) fun S q pc hS hq hC hE => ?_
  conv => whnf
  refine qah hE hS ?_
  conv => whnf
  repeat ((first|refine qar t1 ?_|refine qas t1 ?_|refine pkF t1 ?_|refine qac t1 ?_|refine qar (qba t1) ?_|refine qas (qba t1) ?_|refine pkF (qba t1) ?_|refine qac (qba t1) ?_|refine qad hS (by kernel_rfl) ?_);conv => whnf)
  refine qap hC ?_
  conv => whnf
  refine qa0 hS (qfy _) ?_
  conv => whnf
theorem dgv:∀ x,x < 58 → 48 ≤ x → IntKind.i64.wrap (IntKind.i32.wrap (Int.ofNat x - 48)) = Int.ofNat (x - 48) :=by decide +kernel
theorem qvi {b:UInt8} (h:48 ≤ b.toNat):dgt (b.toNat - 48) = b :=by
 unfold dgt
 rw [show 48 + (b.toNat - 48) = b.toNat by omega]
 simp
theorem numL {b:UInt8} {r:List UInt8} (h1:48 ≤ b.toNat) (h2:b.toNat ≤ 57) (hl:2 ≤ r.length) (hl2:r.length ≤ 1000):qb7 prog 159 [.str (b :: r)] (noP (b :: r)) :=by
 have hd:Utf8.decode ⟨(b :: r).toArray⟩ 0 = (b.toNat,1) :=qcs (l :=b :: r) (p :=0) (Nat.succ_pos _) (show b.toNat < 128 by omega)
 have t1:decide (Int.ofNat (Utf8.decode ⟨(b :: r).toArray⟩ 0).1 ≥ 48) = true :=decide_eq_true (by rw [hd];simp only [Int.ofNat_eq_natCast];omega)
 have t2:decide (Int.ofNat (Utf8.decode ⟨(b :: r).toArray⟩ 0).1 ≤ 57) = true :=decide_eq_true (by rw [hd];simp only [Int.ofNat_eq_natCast];omega)
 have t3:decide (((b :: r).length:Int) ≤ 2) = false :=decide_eq_false (by rw [List.length_cons];omega)
 have lS:Lives noL [AV.str (b :: r)] :=⟨trivial,trivial⟩
 refine qa8 hE rfl (by repeat' first|exact trivial|assumption|exact qae _|exact fun _ h => nomatch h|apply And.intro) (by simp [noP,Live,Lives]) fun S q pc hS hq hC hE => ?_
 conv => whnf
 refine qah hE hS ?_
 conv => whnf
 repeat ((first|refine qaj t1 ?_|refine qai t1 ?_|refine pkT t1 ?_|refine qaa t1 ?_|refine qaj (qaw t1) ?_|refine qai (qaw t1) ?_|refine pkT (qaw t1) ?_|refine qaa (qaw t1) ?_|refine qaj t2 ?_|refine qai t2 ?_|refine pkT t2 ?_|refine qaa t2 ?_|refine qaj (qaw t2) ?_|refine qai (qaw t2) ?_|refine pkT (qaw t2) ?_|refine qaa (qaw t2) ?_|refine qar t3 ?_|refine qas t3 ?_|refine pkF t3 ?_|refine qac t3 ?_|refine qar (qba t3) ?_|refine qas (qba t3) ?_|refine pkF (qba t3) ?_|refine qac (qba t3) ?_|refine qad hS (by kernel_rfl) ?_);conv => whnf)
 refine qap hC ?_
 conv => whnf
 refine qa0 hS (qdx t3 _) ?_
 conv => whnf
theorem num1 {b:UInt8} (h1:48 ≤ b.toNat) (h2:b.toNat ≤ 57):Pure prog 159 [.str [b]] (nv (b.toNat - 48)) ∧ [b] = dec (b.toNat - 48) :=by
 have hd:Utf8.decode ⟨[b].toArray⟩ 0 = (b.toNat,1) :=qcs (l :=[b]) (p :=0) (Nat.succ_pos _) (show b.toNat < 128 by omega)
 have e1:[b] = dec (b.toNat - 48) :=by rw [dec,if_pos (by omega),qvi h1]
 refine ⟨?_,e1⟩
 have t1:decide (Int.ofNat (Utf8.decode ⟨[b].toArray⟩ 0).1 ≥ 48) = true :=decide_eq_true (by rw [hd];simp only [Int.ofNat_eq_natCast];omega)
 have t2:decide (Int.ofNat (Utf8.decode ⟨[b].toArray⟩ 0).1 ≤ 57) = true :=decide_eq_true (by rw [hd];simp only [Int.ofNat_eq_natCast];omega)
 have t4:decide (0 + (Utf8.decode ⟨[b].toArray⟩ 0).2 < [b].length) = false :=decide_eq_false (by rw [hd];show ¬ 0 + 1 < 1;omega)
 have v0:IntKind.i64.wrap (10 * 0) = 0 :=qev (by decide) (by decide)
 have hV:IntKind.i64.wrap (IntKind.i64.wrap (10 * 0) + IntKind.i64.wrap (IntKind.i32.wrap (Int.ofNat (Utf8.decode ⟨[b].toArray⟩ 0).1 - 48))) = Int.ofNat (b.toNat - 48) :=by
  rw [hd,dgv _ (show b.toNat < 58 by omega) h1,v0,Int.zero_add]
  exact qaz (m :=b.toNat - 48) (by omega)
 have p1 :=qc5 hV (by omega)
 have e2:(dec (b.toNat - 48) == [b]) = true :=beq_iff_eq.2 e1.symm
 refine qan hE rfl (by repeat' first|exact trivial|assumption|exact qae _|exact fun _ h => nomatch h|apply And.intro) (by repeat' first|exact trivial|assumption|exact qae _|exact fun _ h => nomatch h|apply And.intro) fun S q pc hS hq hC hE => ?_
 conv => whnf
 refine qah hE hS ?_
 conv => whnf
 repeat ((first|refine qaj t1 ?_|refine qai t1 ?_|refine pkT t1 ?_|refine qaa t1 ?_|refine qaj (qaw t1) ?_|refine qai (qaw t1) ?_|refine pkT (qaw t1) ?_|refine qaa (qaw t1) ?_|refine qaj t2 ?_|refine qai t2 ?_|refine pkT t2 ?_|refine qaa t2 ?_|refine qaj (qaw t2) ?_|refine qai (qaw t2) ?_|refine pkT (qaw t2) ?_|refine qaa (qaw t2) ?_|refine qab hC (qdd [b]) ?_|refine qad hS (by kernel_rfl) ?_);conv => whnf)
 refine qah hE hS ?_
 conv => whnf
 repeat ((first|refine qal (nx_f t4) ?_|refine qab hC (qdj e2 [b]) ?_|refine qab hC (p1) ?_|refine qad hS (by kernel_rfl) ?_);conv => whnf)
 exact ⟨_,rfl,wk_i hV⟩
theorem num2 {b d:UInt8} (h1:48 ≤ b.toNat) (h2:b.toNat ≤ 57) (h3:48 ≤ d.toNat) (h4:d.toNat ≤ 57) (h0:b.toNat ≠ 48):Pure prog 159 [.str [b,d]] (nv (10 * (b.toNat - 48) + (d.toNat - 48))) ∧ [b,d] = dec (10 * (b.toNat - 48) + (d.toNat - 48)) :=by
 have e1:[b,d] = dec (10 * (b.toNat - 48) + (d.toNat - 48)) :=by
  rw [dec,if_neg (by omega),if_pos (by omega),show (10 * (b.toNat - 48) + (d.toNat - 48)) / 10 = b.toNat - 48 by omega,show (10 * (b.toNat - 48) + (d.toNat - 48)) % 10 = d.toNat - 48 by omega,qvi h1,qvi h3]
 refine ⟨?_,e1⟩
 have hd:Utf8.decode ⟨[b,d].toArray⟩ 0 = (b.toNat,1) :=qcs (l :=[b,d]) (p :=0) (Nat.succ_pos _) (show b.toNat < 128 by omega)
 have t1:decide (Int.ofNat (Utf8.decode ⟨[b,d].toArray⟩ 0).1 ≥ 48) = true :=decide_eq_true (by rw [hd];simp only [Int.ofNat_eq_natCast];omega)
 have t2:decide (Int.ofNat (Utf8.decode ⟨[b,d].toArray⟩ 0).1 ≤ 57) = true :=decide_eq_true (by rw [hd];simp only [Int.ofNat_eq_natCast];omega)
 have t4:decide (0 + (Utf8.decode ⟨[b,d].toArray⟩ 0).2 < [b,d].length) = true :=decide_eq_true (by rw [hd];show 0 + 1 < 2;omega)
 have v0:IntKind.i64.wrap (10 * 0) = 0 :=qev (by decide) (by decide)
 have hd2:Utf8.decode ⟨[b,d].toArray⟩ (0 + (Utf8.decode ⟨[b,d].toArray⟩ 0).2) = (d.toNat,1) :=by rw [hd];exact qcs (l :=[b,d]) (p :=1) (Nat.lt_succ_self 1) (show d.toNat < 128 by omega)
 have t5:decide (Int.ofNat (Utf8.decode ⟨[b,d].toArray⟩ (0 + (Utf8.decode ⟨[b,d].toArray⟩ 0).2)).1 ≥ 48) = true :=decide_eq_true (by rw [hd2];simp only [Int.ofNat_eq_natCast];omega)
 have t6:decide (Int.ofNat (Utf8.decode ⟨[b,d].toArray⟩ (0 + (Utf8.decode ⟨[b,d].toArray⟩ 0).2)).1 ≤ 57) = true :=decide_eq_true (by rw [hd2];simp only [Int.ofNat_eq_natCast];omega)
 have t7:decide (0 + (Utf8.decode ⟨[b,d].toArray⟩ 0).2 + (Utf8.decode ⟨[b,d].toArray⟩ (0 + (Utf8.decode ⟨[b,d].toArray⟩ 0).2)).2 < [b,d].length) = false :=decide_eq_false (by rw [hd2,hd];show ¬ 0 + 1 + 1 < 2;omega)
 have hV:IntKind.i64.wrap (IntKind.i64.wrap (10 * IntKind.i64.wrap (IntKind.i64.wrap (10 * 0) + IntKind.i64.wrap (IntKind.i32.wrap (Int.ofNat (Utf8.decode ⟨[b,d].toArray⟩ 0).1 - 48)))) + IntKind.i64.wrap (IntKind.i32.wrap (Int.ofNat (Utf8.decode ⟨[b,d].toArray⟩ (0 + (Utf8.decode ⟨[b,d].toArray⟩ 0).2)).1 - 48))) = Int.ofNat (10 * (b.toNat - 48) + (d.toNat - 48)) :=by
  rw [hd2,hd,dgv _ (show b.toNat < 58 by omega) h1,dgv _ (show d.toNat < 58 by omega) h3,v0,Int.zero_add]
  rw [show IntKind.i64.wrap (Int.ofNat (b.toNat - 48)) = Int.ofNat (b.toNat - 48) from qaz (m :=b.toNat - 48) (by omega)]
  rw [show IntKind.i64.wrap (10 * Int.ofNat (b.toNat - 48)) = Int.ofNat (10 * (b.toNat - 48)) from qaz (m :=10 * (b.toNat - 48)) (by omega)]
  exact qaz (m :=10 * (b.toNat - 48) + (d.toNat - 48)) (by omega)
 have p1 :=qc5 hV (by omega)
 have e2:(dec (10 * (b.toNat - 48) + (d.toNat - 48)) == [b,d]) = true :=beq_iff_eq.2 e1.symm
 refine qan hE rfl (by repeat' first|exact trivial|assumption|exact qae _|exact fun _ h => nomatch h|apply And.intro) (by repeat' first|exact trivial|assumption|exact qae _|exact fun _ h => nomatch h|apply And.intro) fun S q pc hS hq hC hE => ?_
 conv => whnf
 refine qah hE hS ?_
 conv => whnf
 repeat ((first|refine qaj t1 ?_|refine qai t1 ?_|refine pkT t1 ?_|refine qaa t1 ?_|refine qaj (qaw t1) ?_|refine qai (qaw t1) ?_|refine pkT (qaw t1) ?_|refine qaa (qaw t1) ?_|refine qaj t2 ?_|refine qai t2 ?_|refine pkT t2 ?_|refine qaa t2 ?_|refine qaj (qaw t2) ?_|refine qai (qaw t2) ?_|refine pkT (qaw t2) ?_|refine qaa (qaw t2) ?_|refine qab hC (qdd [b,d]) ?_|refine qad hS (by kernel_rfl) ?_);conv => whnf)
 refine qah hE hS ?_
 conv => whnf
 repeat ((first|refine qal (nx_t t4) ?_|refine qaj t5 ?_|refine qai t5 ?_|refine pkT t5 ?_|refine qaa t5 ?_|refine qaj (qaw t5) ?_|refine qai (qaw t5) ?_|refine pkT (qaw t5) ?_|refine qaa (qaw t5) ?_|refine qaj t6 ?_|refine qai t6 ?_|refine pkT t6 ?_|refine qaa t6 ?_|refine qaj (qaw t6) ?_|refine qai (qaw t6) ?_|refine pkT (qaw t6) ?_|refine qaa (qaw t6) ?_|refine qab hC (qdd [b,d]) ?_|refine qad hS (by kernel_rfl) ?_);conv => whnf)
 refine qah hE hS ?_
 conv => whnf
 repeat ((first|refine qal (nx_f t7) ?_|refine qab hC (qdj e2 [b,d]) ?_|refine qab hC (p1) ?_|refine qad hS (by kernel_rfl) ?_);conv => whnf)
 exact ⟨_,rfl,wk_i hV⟩
theorem qxm {b d:UInt8} (h1:b.toNat = 48) (h3:48 ≤ d.toNat) (h4:d.toNat ≤ 57):qb7 prog 159 [.str [b,d]] (noP [b,d]) :=by
 have h2:b.toNat ≤ 57 :=by omega
 have h1:48 ≤ b.toNat :=by omega
 have hd:Utf8.decode ⟨[b,d].toArray⟩ 0 = (b.toNat,1) :=qcs (l :=[b,d]) (p :=0) (Nat.succ_pos _) (show b.toNat < 128 by omega)
 have t1:decide (Int.ofNat (Utf8.decode ⟨[b,d].toArray⟩ 0).1 ≥ 48) = true :=decide_eq_true (by rw [hd];simp only [Int.ofNat_eq_natCast];omega)
 have t2:decide (Int.ofNat (Utf8.decode ⟨[b,d].toArray⟩ 0).1 ≤ 57) = true :=decide_eq_true (by rw [hd];simp only [Int.ofNat_eq_natCast];omega)
 have t4:decide (0 + (Utf8.decode ⟨[b,d].toArray⟩ 0).2 < [b,d].length) = true :=decide_eq_true (by rw [hd];show 0 + 1 < 2;omega)
 have v0:IntKind.i64.wrap (10 * 0) = 0 :=qev (by decide) (by decide)
 have hd2:Utf8.decode ⟨[b,d].toArray⟩ (0 + (Utf8.decode ⟨[b,d].toArray⟩ 0).2) = (d.toNat,1) :=by rw [hd];exact qcs (l :=[b,d]) (p :=1) (Nat.lt_succ_self 1) (show d.toNat < 128 by omega)
 have t5:decide (Int.ofNat (Utf8.decode ⟨[b,d].toArray⟩ (0 + (Utf8.decode ⟨[b,d].toArray⟩ 0).2)).1 ≥ 48) = true :=decide_eq_true (by rw [hd2];simp only [Int.ofNat_eq_natCast];omega)
 have t6:decide (Int.ofNat (Utf8.decode ⟨[b,d].toArray⟩ (0 + (Utf8.decode ⟨[b,d].toArray⟩ 0).2)).1 ≤ 57) = true :=decide_eq_true (by rw [hd2];simp only [Int.ofNat_eq_natCast];omega)
 have t7:decide (0 + (Utf8.decode ⟨[b,d].toArray⟩ 0).2 + (Utf8.decode ⟨[b,d].toArray⟩ (0 + (Utf8.decode ⟨[b,d].toArray⟩ 0).2)).2 < [b,d].length) = false :=decide_eq_false (by rw [hd2,hd];show ¬ 0 + 1 + 1 < 2;omega)
 have hV:IntKind.i64.wrap (IntKind.i64.wrap (10 * IntKind.i64.wrap (IntKind.i64.wrap (10 * 0) + IntKind.i64.wrap (IntKind.i32.wrap (Int.ofNat (Utf8.decode ⟨[b,d].toArray⟩ 0).1 - 48)))) + IntKind.i64.wrap (IntKind.i32.wrap (Int.ofNat (Utf8.decode ⟨[b,d].toArray⟩ (0 + (Utf8.decode ⟨[b,d].toArray⟩ 0).2)).1 - 48))) = Int.ofNat (10 * (b.toNat - 48) + (d.toNat - 48)) :=by
  rw [hd2,hd,dgv _ (show b.toNat < 58 by omega) h1,dgv _ (show d.toNat < 58 by omega) h3,v0,Int.zero_add]
  rw [show IntKind.i64.wrap (Int.ofNat (b.toNat - 48)) = Int.ofNat (b.toNat - 48) from qaz (m :=b.toNat - 48) (by omega)]
  rw [show IntKind.i64.wrap (10 * Int.ofNat (b.toNat - 48)) = Int.ofNat (10 * (b.toNat - 48)) from qaz (m :=10 * (b.toNat - 48)) (by omega)]
  exact qaz (m :=10 * (b.toNat - 48) + (d.toNat - 48)) (by omega)
 have p1 :=qc5 hV (by omega)
 have e2:(dec (10 * (b.toNat - 48) + (d.toNat - 48)) == [b,d]) = false :=beq_eq_false_iff_ne.2 fun z => by
  rw [dec,if_pos (by omega)] at z
  exact absurd (congrArg List.length z) (by simp)
 have lS:Lives noL [AV.str [b,d]] :=⟨trivial,trivial⟩
 refine qa8 hE rfl (by repeat' first|exact trivial|assumption|exact qae _|exact fun _ h => nomatch h|apply And.intro) (by simp [noP,Live,Lives]) fun S q pc hS hq hC hE => ?_
 conv => whnf
 refine qah hE hS ?_
 conv => whnf
 repeat ((first|refine qaj t1 ?_|refine qai t1 ?_|refine pkT t1 ?_|refine qaa t1 ?_|refine qaj (qaw t1) ?_|refine qai (qaw t1) ?_|refine pkT (qaw t1) ?_|refine qaa (qaw t1) ?_|refine qaj t2 ?_|refine qai t2 ?_|refine pkT t2 ?_|refine qaa t2 ?_|refine qaj (qaw t2) ?_|refine qai (qaw t2) ?_|refine pkT (qaw t2) ?_|refine qaa (qaw t2) ?_|refine qab hC (qdd [b,d]) ?_|refine qad hS (by kernel_rfl) ?_);conv => whnf)
 refine qah hE hS ?_
 conv => whnf
 repeat ((first|refine qal (nx_t t4) ?_|refine qaj t5 ?_|refine qai t5 ?_|refine pkT t5 ?_|refine qaa t5 ?_|refine qaj (qaw t5) ?_|refine qai (qaw t5) ?_|refine pkT (qaw t5) ?_|refine qaa (qaw t5) ?_|refine qaj t6 ?_|refine qai t6 ?_|refine pkT t6 ?_|refine qaa t6 ?_|refine qaj (qaw t6) ?_|refine qai (qaw t6) ?_|refine pkT (qaw t6) ?_|refine qaa (qaw t6) ?_|refine qab hC (qdd [b,d]) ?_|refine qad hS (by kernel_rfl) ?_);conv => whnf)
 refine qah hE hS ?_
 conv => whnf
 repeat ((first|refine qal (nx_f t7) ?_|refine qab hC (p1) ?_|refine qad hS (by kernel_rfl) ?_);conv => whnf)
 refine qap hC ?_
 conv => whnf
 refine qa0 hS (qdx e2 _) ?_
 conv => whnf
theorem qxn {b d:UInt8} (h1:48 ≤ b.toNat) (h2:b.toNat ≤ 57) (h3:¬ (48 ≤ d.toNat ∧ d.toNat ≤ 57)):qb7 prog 159 [.str [b,d]] (noP [b,d]) :=by
 have hd:Utf8.decode ⟨[b,d].toArray⟩ 0 = (b.toNat,1) :=qcs (l :=[b,d]) (p :=0) (Nat.succ_pos _) (show b.toNat < 128 by omega)
 have t1:decide (Int.ofNat (Utf8.decode ⟨[b,d].toArray⟩ 0).1 ≥ 48) = true :=decide_eq_true (by rw [hd];simp only [Int.ofNat_eq_natCast];omega)
 have t2:decide (Int.ofNat (Utf8.decode ⟨[b,d].toArray⟩ 0).1 ≤ 57) = true :=decide_eq_true (by rw [hd];simp only [Int.ofNat_eq_natCast];omega)
 have t4:decide (0 + (Utf8.decode ⟨[b,d].toArray⟩ 0).2 < [b,d].length) = true :=decide_eq_true (by rw [hd];show 0 + 1 < 2;omega)
 have v0:IntKind.i64.wrap (10 * 0) = 0 :=qev (by decide) (by decide)
 have hd2:¬ (48 ≤ (Utf8.decode ⟨[b,d].toArray⟩ (0 + (Utf8.decode ⟨[b,d].toArray⟩ 0).2)).1 ∧ (Utf8.decode ⟨[b,d].toArray⟩ (0 + (Utf8.decode ⟨[b,d].toArray⟩ 0).2)).1 ≤ 57) :=by
  rw [hd]
  rcases qkd (l :=[b,d]) (p :=1) (Nat.lt_succ_self 1) with k | k
  ·exact absurd ⟨k.1,k.2.1⟩ h3
  ·exact k.2
 have lS:Lives noL [AV.str [b,d]] :=⟨trivial,trivial⟩
 by_cases c1:48 ≤ (Utf8.decode ⟨[b,d].toArray⟩ (0 + (Utf8.decode ⟨[b,d].toArray⟩ 0).2)).1
 ·have t5:decide (Int.ofNat (Utf8.decode ⟨[b,d].toArray⟩ (0 + (Utf8.decode ⟨[b,d].toArray⟩ 0).2)).1 ≥ 48) = true :=decide_eq_true (by simp only [Int.ofNat_eq_natCast];omega)
  have f6:decide (Int.ofNat (Utf8.decode ⟨[b,d].toArray⟩ (0 + (Utf8.decode ⟨[b,d].toArray⟩ 0).2)).1 ≤ 57) = false :=decide_eq_false (by simp only [Int.ofNat_eq_natCast];omega)
  refine qa8 hE rfl (by repeat' first|exact trivial|assumption|exact qae _|exact fun _ h => nomatch h|apply And.intro) (by simp [noP,Live,Lives]) fun S q pc hS hq hC hE => ?_
  conv => whnf
  refine qah hE hS ?_
  conv => whnf
  repeat ((first|refine qaj t1 ?_|refine qai t1 ?_|refine pkT t1 ?_|refine qaa t1 ?_|refine qaj (qaw t1) ?_|refine qai (qaw t1) ?_|refine pkT (qaw t1) ?_|refine qaa (qaw t1) ?_|refine qaj t2 ?_|refine qai t2 ?_|refine pkT t2 ?_|refine qaa t2 ?_|refine qaj (qaw t2) ?_|refine qai (qaw t2) ?_|refine pkT (qaw t2) ?_|refine qaa (qaw t2) ?_|refine qab hC (qdd [b,d]) ?_|refine qad hS (by kernel_rfl) ?_);conv => whnf)
  refine qah hE hS ?_
  conv => whnf
  repeat ((first|refine qal (nx_t t4) ?_|refine qaj t5 ?_|refine qai t5 ?_|refine pkT t5 ?_|refine qaa t5 ?_|refine qaj (qaw t5) ?_|refine qai (qaw t5) ?_|refine pkT (qaw t5) ?_|refine qaa (qaw t5) ?_|refine qar f6 ?_|refine qas f6 ?_|refine pkF f6 ?_|refine qac f6 ?_|refine qar (qba f6) ?_|refine qas (qba f6) ?_|refine pkF (qba f6) ?_|refine qac (qba f6) ?_|refine qad hS (by kernel_rfl) ?_);conv => whnf)
  refine qap hC ?_
  conv => whnf
  refine qa0 hS (qfy _) ?_
  conv => whnf
 ·have f5:decide (Int.ofNat (Utf8.decode ⟨[b,d].toArray⟩ (0 + (Utf8.decode ⟨[b,d].toArray⟩ 0).2)).1 ≥ 48) = false :=decide_eq_false (by simp only [Int.ofNat_eq_natCast];omega)
  refine qa8 hE rfl (by repeat' first|exact trivial|assumption|exact qae _|exact fun _ h => nomatch h|apply And.intro) (by simp [noP,Live,Lives]) fun S q pc hS hq hC hE => ?_
  conv => whnf
  refine qah hE hS ?_
  conv => whnf
  repeat ((first|refine qaj t1 ?_|refine qai t1 ?_|refine pkT t1 ?_|refine qaa t1 ?_|refine qaj (qaw t1) ?_|refine qai (qaw t1) ?_|refine pkT (qaw t1) ?_|refine qaa (qaw t1) ?_|refine qaj t2 ?_|refine qai t2 ?_|refine pkT t2 ?_|refine qaa t2 ?_|refine qaj (qaw t2) ?_|refine qai (qaw t2) ?_|refine pkT (qaw t2) ?_|refine qaa (qaw t2) ?_|refine qab hC (qdd [b,d]) ?_|refine qad hS (by kernel_rfl) ?_);conv => whnf)
  refine qah hE hS ?_
  conv => whnf
  repeat ((first|refine qal (nx_t t4) ?_|refine qar f5 ?_|refine qas f5 ?_|refine pkF f5 ?_|refine qac f5 ?_|refine qar (qba f5) ?_|refine qas (qba f5) ?_|refine pkF (qba f5) ?_|refine qac (qba f5) ?_|refine qad hS (by kernel_rfl) ?_);conv => whnf)
  refine qap hC ?_
  conv => whnf
  refine qa0 hS (qfy _) ?_
  conv => whnf
theorem qde (w:List UInt8) (hw:w.length ≤ 1000):(∃ n,n < 100 ∧ w = dec n ∧ Pure prog 159 [.str w] (nv n)) ∨ ((¬ ∃ n,n < 100 ∧ w = dec n) ∧ qb7 prog 159 [.str w] (noP w)) :=by
 have dlen:∀ n,(dec n) ≠ [] :=fun n => by
  unfold dec
  split
  ·exact fun h => nomatch h
  ·split <;> exact fun h => nomatch h
 have dd:∀ n,n < 100 → ∀ x,x ∈ dec n → 48 ≤ x.toNat ∧ x.toNat ≤ 57 :=by decide +kernel
 have d2:∀ n,n < 100 → (dec n).length ≤ 2 :=by decide +kernel
 have d0:∀ n,n < 100 → (dec n).length = 2 → (dec n).getD 0 0 ≠ 48 :=by decide +kernel
 rcases w with _ | ⟨b,_ | ⟨d,r⟩⟩
 ·exact .inr ⟨fun ⟨n,_,e⟩ => dlen n e.symm,num0⟩
 ·by_cases h:48 ≤ b.toNat ∧ b.toNat ≤ 57
  ·obtain ⟨p,e⟩ :=num1 h.1 h.2
   exact .inl ⟨_,by omega,e,p⟩
  ·exact .inr ⟨fun ⟨n,hn,e⟩ => h (dd n hn b (by rw [← e];exact List.mem_singleton.2 rfl)),numX h⟩
 ·by_cases h:48 ≤ b.toNat ∧ b.toNat ≤ 57
  ·rcases r with _ | ⟨x,r⟩
   ·by_cases h3:48 ≤ d.toNat ∧ d.toNat ≤ 57
    ·by_cases h0:b.toNat = 48
     ·refine .inr ⟨fun ⟨n,hn,e⟩ => d0 n hn (by rw [← e];rfl) (by rw [← e];exact UInt8.toNat_inj.1 h0),qxm h0 h3.1 h3.2⟩
     ·obtain ⟨p,e⟩ :=num2 h.1 h.2 h3.1 h3.2 h0
      exact .inl ⟨_,by omega,e,p⟩
    ·exact .inr ⟨fun ⟨n,hn,e⟩ => h3 (dd n hn d (by rw [← e];simp)),qxn h.1 h.2 h3⟩
   ·refine .inr ⟨fun ⟨n,hn,e⟩ => absurd (d2 n hn) (by rw [← e];simp),numL h.1 h.2 (by simp) (by simp only [List.length_cons] at hw ⊢;omega)⟩
  ·exact .inr ⟨fun ⟨n,hn,e⟩ => h (dd n hn b (by rw [← e];simp)),numX h⟩
end
end Go.Abs.Seat
namespace Go.Abs.Seat
noncomputable section
open Go Go.Abs Go.Proofs.Tryz
set_option maxRecDepth 100000
set_option maxHeartbeats 40000000
attribute [local irreducible] pEq
theorem qn2:Pure prog 156 [iv 0] (.str [112,105,101,99,101]) :=by
 refine qan hE rfl (by repeat' first|exact trivial|assumption|exact qae _|exact fun _ h => nomatch h|apply And.intro) (by repeat' first|exact trivial|assumption|exact qae _|exact fun _ h => nomatch h|apply And.intro) fun S q pc hS hq hC hE => ?_
 conv => whnf
 exact ⟨_,rfl,Wk.refl _⟩
theorem qn3:Pure prog 156 [iv 1] (.str [108,105,110,107]) :=by
 refine qan hE rfl (by repeat' first|exact trivial|assumption|exact qae _|exact fun _ h => nomatch h|apply And.intro) (by repeat' first|exact trivial|assumption|exact qae _|exact fun _ h => nomatch h|apply And.intro) fun S q pc hS hq hC hE => ?_
 conv => whnf
 exact ⟨_,rfl,Wk.refl _⟩
theorem qn4:Pure prog 156 [iv 2] (.str [104,97,110,100]) :=by
 refine qan hE rfl (by repeat' first|exact trivial|assumption|exact qae _|exact fun _ h => nomatch h|apply And.intro) (by repeat' first|exact trivial|assumption|exact qae _|exact fun _ h => nomatch h|apply And.intro) fun S q pc hS hq hC hE => ?_
 conv => whnf
 exact ⟨_,rfl,Wk.refl _⟩
theorem qf7 (c:UInt8):∀ s p,p ∈ spl c s → p.length ≤ s.length
 | [],p,h => by
  rw [spl] at h
  rw [List.mem_singleton.1 h]
  exact Nat.le_refl _
 |b :: r,p,h => by
  have ih :=qf7 c r
  rw [spl] at h
  split at h
  ·rcases List.mem_cons.1 h with rfl | h
   ·exact Nat.zero_le _
   ·have :=ih p h
    simp only [List.length_cons];omega
  ·split at h
   ·rename_i e
    exact absurd e (qgt c r)
   ·rename_i x t e
    rcases List.mem_cons.1 h with rfl | h
    ·have :=ih x (by rw [e];exact List.mem_cons_self ..)
     simp only [List.length_cons];omega
    ·have :=ih p (by rw [e];exact List.mem_cons_of_mem _ h)
     simp only [List.length_cons];omega
theorem qs8 (l:List Nat) (c:Nat):Wk (.lst (l.map fun n => nv n) l.length (.ch c)) (nl (zl l)) :=by
 have e:(l.map fun n => nv n) = ivs (zl l) :=by
  induction l with
  |nil => rfl
  |cons x r ih => rw [List.map_cons,ih];rfl
 rw [e]
 have e2:l.length = (zl l).length :=(qcc l).symm
 rw [e2]
 exact (WkV.own _ _ _).wk
theorem qp8 {s nm:List UInt8} {k:Int} (pn:Pure prog 156 [iv k] (.str nm)) (hs:s.length ≤ 1000) (h:¬ ∃ r,spl 32 s = nm :: r ∧ r.length = 1):qb7 prog 143 [.str s,iv k,iv 1] (noP s) :=by
 have pS :=qbd s 32 hs
 have lS:Lives noL [AV.str s,iv k,iv 1] :=⟨trivial,trivial,trivial,trivial⟩
 have hne :=qgt 32 s
 cases hp:spl 32 s with
 |nil => exact absurd hp hne
 |cons p0 r =>
  rw [hp] at pS
  have lR :=qbp (p0 :: r)
  have ir:inR 0 (p0 :: r).length = true :=qaq (i :=0) (Nat.succ_pos _)
  by_cases e0:p0 = nm
  ·have t0:(p0 == nm) = true :=beq_iff_eq.2 e0
   have t1:(((p0 :: r).length:Int) == 2) = false :=beq_eq_false_iff_ne.2 fun z => h ⟨r,by rw [hp,e0],by rw [List.length_cons] at z;omega⟩
   refine qem hE rfl (by repeat' first|exact trivial|assumption|exact qae _|exact fun _ h => nomatch h|apply And.intro) (by simp [noP,Live,Lives]) fun S q pc hS hq hC hE => ?_
   conv => whnf
   refine qct (E :=E q pc) hS (qbc hE hS ?_)
   conv => whnf
   refine qct (E :=E q pc) hS (qbc hE hS ?_)
   conv => whnf
   repeat ((first|refine qab hC (pS) ?_|refine qad hS (by kernel_rfl) ?_);conv => whnf)
   refine qct (E :=E q pc) hS (qel hE hS ?_)
   conv => whnf
   repeat ((first|refine qaj ir ?_|refine qai ir ?_|refine pkT ir ?_|refine qaa ir ?_|refine qaj t0 ?_|refine qai t0 ?_|refine pkT t0 ?_|refine qaa t0 ?_|refine qaj (qaw t0) ?_|refine qai (qaw t0) ?_|refine pkT (qaw t0) ?_|refine qaa (qaw t0) ?_|refine qar t1 ?_|refine qas t1 ?_|refine pkF t1 ?_|refine qac t1 ?_|refine qar (qba t1) ?_|refine qas (qba t1) ?_|refine pkF (qba t1) ?_|refine qac (qba t1) ?_|refine qab hC (pn) ?_|refine qad hS (by kernel_rfl) ?_);conv => whnf)
   refine qap hC ?_
   conv => whnf
   refine qa0 hS (qdx t1 _) ?_
   conv => whnf
  ·have t0:(p0 == nm) = false :=beq_eq_false_iff_ne.2 e0
   refine qem hE rfl (by repeat' first|exact trivial|assumption|exact qae _|exact fun _ h => nomatch h|apply And.intro) (by simp [noP,Live,Lives]) fun S q pc hS hq hC hE => ?_
   conv => whnf
   refine qct (E :=E q pc) hS (qbc hE hS ?_)
   conv => whnf
   refine qct (E :=E q pc) hS (qbc hE hS ?_)
   conv => whnf
   repeat ((first|refine qab hC (pS) ?_|refine qad hS (by kernel_rfl) ?_);conv => whnf)
   refine qct (E :=E q pc) hS (qel hE hS ?_)
   conv => whnf
   repeat ((first|refine qaj ir ?_|refine qai ir ?_|refine pkT ir ?_|refine qaa ir ?_|refine qar t0 ?_|refine qas t0 ?_|refine pkF t0 ?_|refine qac t0 ?_|refine qar (qba t0) ?_|refine qas (qba t0) ?_|refine pkF (qba t0) ?_|refine qac (qba t0) ?_|refine qab hC (pn) ?_|refine qad hS (by kernel_rfl) ?_);conv => whnf)
   refine qap hC ?_
   conv => whnf
   refine qa0 hS (qfy _) ?_
   conv => whnf
theorem qp7 {s nm:List UInt8} {k:Int} (pn:Pure prog 156 [iv k] (.str nm)) (hs:s.length ≤ 1000) (h:¬ ∃ r,spl 32 s = nm :: r ∧ r.length = 3):qb7 prog 143 [.str s,iv k,iv 3] (noP s) :=by
 have pS :=qbd s 32 hs
 have lS:Lives noL [AV.str s,iv k,iv 3] :=⟨trivial,trivial,trivial,trivial⟩
 have hne :=qgt 32 s
 cases hp:spl 32 s with
 |nil => exact absurd hp hne
 |cons p0 r =>
  rw [hp] at pS
  have lR :=qbp (p0 :: r)
  have ir:inR 0 (p0 :: r).length = true :=qaq (i :=0) (Nat.succ_pos _)
  by_cases e0:p0 = nm
  ·have t0:(p0 == nm) = true :=beq_iff_eq.2 e0
   have t1:(((p0 :: r).length:Int) == 4) = false :=beq_eq_false_iff_ne.2 fun z => h ⟨r,by rw [hp,e0],by rw [List.length_cons] at z;omega⟩
   refine qem hE rfl (by repeat' first|exact trivial|assumption|exact qae _|exact fun _ h => nomatch h|apply And.intro) (by simp [noP,Live,Lives]) fun S q pc hS hq hC hE => ?_
   conv => whnf
   refine qct (E :=E q pc) hS (qbc hE hS ?_)
   conv => whnf
   refine qct (E :=E q pc) hS (qbc hE hS ?_)
   conv => whnf
   repeat ((first|refine qab hC (pS) ?_|refine qad hS (by kernel_rfl) ?_);conv => whnf)
   refine qct (E :=E q pc) hS (qel hE hS ?_)
   conv => whnf
   repeat ((first|refine qaj ir ?_|refine qai ir ?_|refine pkT ir ?_|refine qaa ir ?_|refine qaj t0 ?_|refine qai t0 ?_|refine pkT t0 ?_|refine qaa t0 ?_|refine qaj (qaw t0) ?_|refine qai (qaw t0) ?_|refine pkT (qaw t0) ?_|refine qaa (qaw t0) ?_|refine qar t1 ?_|refine qas t1 ?_|refine pkF t1 ?_|refine qac t1 ?_|refine qar (qba t1) ?_|refine qas (qba t1) ?_|refine pkF (qba t1) ?_|refine qac (qba t1) ?_|refine qab hC (pn) ?_|refine qad hS (by kernel_rfl) ?_);conv => whnf)
   refine qap hC ?_
   conv => whnf
   refine qa0 hS (qdx t1 _) ?_
   conv => whnf
  ·have t0:(p0 == nm) = false :=beq_eq_false_iff_ne.2 e0
   refine qem hE rfl (by repeat' first|exact trivial|assumption|exact qae _|exact fun _ h => nomatch h|apply And.intro) (by simp [noP,Live,Lives]) fun S q pc hS hq hC hE => ?_
   conv => whnf
   refine qct (E :=E q pc) hS (qbc hE hS ?_)
   conv => whnf
   refine qct (E :=E q pc) hS (qbc hE hS ?_)
   conv => whnf
   repeat ((first|refine qab hC (pS) ?_|refine qad hS (by kernel_rfl) ?_);conv => whnf)
   refine qct (E :=E q pc) hS (qel hE hS ?_)
   conv => whnf
   repeat ((first|refine qaj ir ?_|refine qai ir ?_|refine pkT ir ?_|refine qaa ir ?_|refine qar t0 ?_|refine qas t0 ?_|refine pkF t0 ?_|refine qac t0 ?_|refine qar (qba t0) ?_|refine qas (qba t0) ?_|refine pkF (qba t0) ?_|refine qac (qba t0) ?_|refine qab hC (pn) ?_|refine qad hS (by kernel_rfl) ?_);conv => whnf)
   refine qap hC ?_
   conv => whnf
   refine qa0 hS (qfy _) ?_
   conv => whnf
theorem qsl {s nm p1:List UInt8} {n1:Nat} {k:Int} (pn:Pure prog 156 [iv k] (.str nm)) (hs:s.length ≤ 1000) (h:spl 32 s = [nm,p1]) (q1:Pure prog 159 [.str p1] (nv n1)):Pure prog 143 [.str s,iv k,iv 1] (nl (zl [n1])) :=by
 have pS :=qbd s 32 hs
 rw [h] at pS
 have lR :=qbp [nm,p1]
 have t0:(nm == nm) = true :=beq_self_eq_true nm
 refine qan hE rfl (by repeat' first|exact trivial|assumption|exact qae _|exact fun _ h => nomatch h|apply And.intro) (by repeat' first|exact trivial|assumption|exact qae _|exact fun _ h => nomatch h|apply And.intro) fun S q pc hS hq hC hE => ?_
 conv => whnf
 repeat ((first|refine qaj t0 ?_|refine qai t0 ?_|refine pkT t0 ?_|refine qaa t0 ?_|refine qaj (qaw t0) ?_|refine qai (qaw t0) ?_|refine pkT (qaw t0) ?_|refine qaa (qaw t0) ?_|refine qab hC (pS) ?_|refine qab hC (pn) ?_|refine qab hC (qdd s) ?_|refine qad hS (by kernel_rfl) ?_);conv => whnf)
 refine qah hE hS ?_
 conv => whnf
 repeat ((first|refine qab hC (q1) ?_|refine qad hS (by kernel_rfl) ?_);conv => whnf)
 refine qah hE hS ?_
 conv => whnf
 repeat ((first|refine qad hS (by kernel_rfl) ?_);conv => whnf)
 exact ⟨_,rfl,qs8 [n1] _⟩
theorem qsh {s nm p1 p2 p3:List UInt8} {n1 n2 n3:Nat} {k:Int} (pn:Pure prog 156 [iv k] (.str nm)) (hs:s.length ≤ 1000) (h:spl 32 s = [nm,p1,p2,p3]) (q1:Pure prog 159 [.str p1] (nv n1)) (q2:Pure prog 159 [.str p2] (nv n2)) (q3:Pure prog 159 [.str p3] (nv n3)):Pure prog 143 [.str s,iv k,iv 3] (nl (zl [n1,n2,n3])) :=by
 have pS :=qbd s 32 hs
 rw [h] at pS
 have lR :=qbp [nm,p1,p2,p3]
 have t0:(nm == nm) = true :=beq_self_eq_true nm
 refine qan hE rfl (by repeat' first|exact trivial|assumption|exact qae _|exact fun _ h => nomatch h|apply And.intro) (by repeat' first|exact trivial|assumption|exact qae _|exact fun _ h => nomatch h|apply And.intro) fun S q pc hS hq hC hE => ?_
 conv => whnf
 repeat ((first|refine qaj t0 ?_|refine qai t0 ?_|refine pkT t0 ?_|refine qaa t0 ?_|refine qaj (qaw t0) ?_|refine qai (qaw t0) ?_|refine pkT (qaw t0) ?_|refine qaa (qaw t0) ?_|refine qab hC (pS) ?_|refine qab hC (pn) ?_|refine qab hC (qdd s) ?_|refine qad hS (by kernel_rfl) ?_);conv => whnf)
 refine qah hE hS ?_
 conv => whnf
 repeat ((first|refine qab hC (q1) ?_|refine qad hS (by kernel_rfl) ?_);conv => whnf)
 refine qah hE hS ?_
 conv => whnf
 repeat ((first|refine qab hC (q2) ?_|refine qad hS (by kernel_rfl) ?_);conv => whnf)
 refine qah hE hS ?_
 conv => whnf
 repeat ((first|refine qab hC (q3) ?_|refine qad hS (by kernel_rfl) ?_);conv => whnf)
 refine qah hE hS ?_
 conv => whnf
 repeat ((first|refine qad hS (by kernel_rfl) ?_);conv => whnf)
 exact ⟨_,rfl,qs8 [n1,n2,n3] _⟩
theorem qsm {s nm p1:List UInt8}  {k:Int} (pn:Pure prog 156 [iv k] (.str nm)) (hs:s.length ≤ 1000) (h:spl 32 s = [nm,p1])  (x:qb7 prog 159 [.str p1] (noP p1)):qb7 prog 143 [.str s,iv k,iv 1] (noP p1) :=by
 have pS :=qbd s 32 hs
 rw [h] at pS
 have lS:Lives noL [AV.str s,iv k,iv 1] :=⟨trivial,trivial,trivial,trivial⟩
 have lR :=qbp [nm,p1]
 have t0:(nm == nm) = true :=beq_self_eq_true nm
 refine qa8 hE rfl (by repeat' first|exact trivial|assumption|exact qae _|exact fun _ h => nomatch h|apply And.intro) (by simp [noP,Live,Lives]) fun S q pc hS hq hC hE => ?_
 conv => whnf
 repeat ((first|refine qaj t0 ?_|refine qai t0 ?_|refine pkT t0 ?_|refine qaa t0 ?_|refine qaj (qaw t0) ?_|refine qai (qaw t0) ?_|refine pkT (qaw t0) ?_|refine qaa (qaw t0) ?_|refine qab hC (pS) ?_|refine qab hC (pn) ?_|refine qab hC (qdd s) ?_|refine qad hS (by kernel_rfl) ?_);conv => whnf)
 refine qah hE hS ?_
 conv => whnf
 repeat ((first|refine qad hS (by kernel_rfl) ?_);conv => whnf)
 refine qap hC ?_
 conv => whnf
 refine qa0 hS (x) ?_
 conv => whnf
theorem qsk {s nm p1 p2 p3:List UInt8}  {k:Int} (pn:Pure prog 156 [iv k] (.str nm)) (hs:s.length ≤ 1000) (h:spl 32 s = [nm,p1,p2,p3])  (x:qb7 prog 159 [.str p1] (noP p1)):qb7 prog 143 [.str s,iv k,iv 3] (noP p1) :=by
 have pS :=qbd s 32 hs
 rw [h] at pS
 have lS:Lives noL [AV.str s,iv k,iv 3] :=⟨trivial,trivial,trivial,trivial⟩
 have lR :=qbp [nm,p1,p2,p3]
 have t0:(nm == nm) = true :=beq_self_eq_true nm
 refine qa8 hE rfl (by repeat' first|exact trivial|assumption|exact qae _|exact fun _ h => nomatch h|apply And.intro) (by simp [noP,Live,Lives]) fun S q pc hS hq hC hE => ?_
 conv => whnf
 repeat ((first|refine qaj t0 ?_|refine qai t0 ?_|refine pkT t0 ?_|refine qaa t0 ?_|refine qaj (qaw t0) ?_|refine qai (qaw t0) ?_|refine pkT (qaw t0) ?_|refine qaa (qaw t0) ?_|refine qab hC (pS) ?_|refine qab hC (pn) ?_|refine qab hC (qdd s) ?_|refine qad hS (by kernel_rfl) ?_);conv => whnf)
 refine qah hE hS ?_
 conv => whnf
 repeat ((first|refine qad hS (by kernel_rfl) ?_);conv => whnf)
 refine qap hC ?_
 conv => whnf
 refine qa0 hS (x) ?_
 conv => whnf
theorem qsj {s nm p1 p2 p3:List UInt8} {n1:Nat} {k:Int} (pn:Pure prog 156 [iv k] (.str nm)) (hs:s.length ≤ 1000) (h:spl 32 s = [nm,p1,p2,p3]) (q1:Pure prog 159 [.str p1] (nv n1)) (x:qb7 prog 159 [.str p2] (noP p2)):qb7 prog 143 [.str s,iv k,iv 3] (noP p2) :=by
 have pS :=qbd s 32 hs
 rw [h] at pS
 have lS:Lives noL [AV.str s,iv k,iv 3] :=⟨trivial,trivial,trivial,trivial⟩
 have lR :=qbp [nm,p1,p2,p3]
 have t0:(nm == nm) = true :=beq_self_eq_true nm
 refine qa8 hE rfl (by repeat' first|exact trivial|assumption|exact qae _|exact fun _ h => nomatch h|apply And.intro) (by simp [noP,Live,Lives]) fun S q pc hS hq hC hE => ?_
 conv => whnf
 repeat ((first|refine qaj t0 ?_|refine qai t0 ?_|refine pkT t0 ?_|refine qaa t0 ?_|refine qaj (qaw t0) ?_|refine qai (qaw t0) ?_|refine pkT (qaw t0) ?_|refine qaa (qaw t0) ?_|refine qab hC (pS) ?_|refine qab hC (pn) ?_|refine qab hC (qdd s) ?_|refine qad hS (by kernel_rfl) ?_);conv => whnf)
 refine qah hE hS ?_
 conv => whnf
 repeat ((first|refine qab hC (q1) ?_|refine qad hS (by kernel_rfl) ?_);conv => whnf)
 refine qah hE hS ?_
 conv => whnf
 repeat ((first|refine qad hS (by kernel_rfl) ?_);conv => whnf)
 refine qap hC ?_
 conv => whnf
 refine qa0 hS (x) ?_
 conv => whnf
theorem qsi {s nm p1 p2 p3:List UInt8} {n1 n2:Nat} {k:Int} (pn:Pure prog 156 [iv k] (.str nm)) (hs:s.length ≤ 1000) (h:spl 32 s = [nm,p1,p2,p3]) (q1:Pure prog 159 [.str p1] (nv n1)) (q2:Pure prog 159 [.str p2] (nv n2)) (x:qb7 prog 159 [.str p3] (noP p3)):qb7 prog 143 [.str s,iv k,iv 3] (noP p3) :=by
 have pS :=qbd s 32 hs
 rw [h] at pS
 have lS:Lives noL [AV.str s,iv k,iv 3] :=⟨trivial,trivial,trivial,trivial⟩
 have lR :=qbp [nm,p1,p2,p3]
 have t0:(nm == nm) = true :=beq_self_eq_true nm
 refine qa8 hE rfl (by repeat' first|exact trivial|assumption|exact qae _|exact fun _ h => nomatch h|apply And.intro) (by simp [noP,Live,Lives]) fun S q pc hS hq hC hE => ?_
 conv => whnf
 repeat ((first|refine qaj t0 ?_|refine qai t0 ?_|refine pkT t0 ?_|refine qaa t0 ?_|refine qaj (qaw t0) ?_|refine qai (qaw t0) ?_|refine pkT (qaw t0) ?_|refine qaa (qaw t0) ?_|refine qab hC (pS) ?_|refine qab hC (pn) ?_|refine qab hC (qdd s) ?_|refine qad hS (by kernel_rfl) ?_);conv => whnf)
 refine qah hE hS ?_
 conv => whnf
 repeat ((first|refine qab hC (q1) ?_|refine qad hS (by kernel_rfl) ?_);conv => whnf)
 refine qah hE hS ?_
 conv => whnf
 repeat ((first|refine qab hC (q2) ?_|refine qad hS (by kernel_rfl) ?_);conv => whnf)
 refine qah hE hS ?_
 conv => whnf
 repeat ((first|refine qad hS (by kernel_rfl) ?_);conv => whnf)
 refine qap hC ?_
 conv => whnf
 refine qa0 hS (x) ?_
 conv => whnf
theorem qwm {s nm:List UInt8} {k:Int} (pn:Pure prog 156 [iv k] (.str nm)) (hs:s.length ≤ 1000):(∃ n,n < 100 ∧ spl 32 s = [nm,dec n] ∧ Pure prog 143 [.str s,iv k,iv 1] (nl (zl [n]))) ∨ ((¬ ∃ n,n < 100 ∧ spl 32 s = [nm,dec n]) ∧ ∃ why,qb7 prog 143 [.str s,iv k,iv 1] (noP why)) :=by
 have hb :=qf7 32 s
 by_cases h:∃ r,spl 32 s = nm :: r ∧ r.length = 1
 ·obtain ⟨r,e,l⟩ :=h
  rcases r with _ | ⟨p1,_ | ⟨p2,r⟩⟩
  ·cases l
  ·have b1 :=hb p1 (by rw [e];simp)
   rcases qde p1 (by omega) with ⟨n,hn,rfl,q⟩ | ⟨hn,q⟩
   ·exact .inl ⟨n,hn,e,qsl pn hs e q⟩
   ·refine .inr ⟨fun ⟨n,h1,h2⟩ => hn ⟨n,h1,?_⟩,_,qsm pn hs e q⟩
    rw [e] at h2
    simpa using h2
  ·simp at l
 ·exact .inr ⟨fun ⟨n,_,h2⟩ => h ⟨_,h2,rfl⟩,_,qp8 pn hs h⟩
theorem qxl {s nm:List UInt8} {k:Int} (pn:Pure prog 156 [iv k] (.str nm)) (hs:s.length ≤ 1000):(∃ a b c,(a < 100 ∧ b < 100 ∧ c < 100) ∧ spl 32 s = [nm,dec a,dec b,dec c] ∧ Pure prog 143 [.str s,iv k,iv 3] (nl (zl [a,b,c]))) ∨ ((¬ ∃ a b c,(a < 100 ∧ b < 100 ∧ c < 100) ∧ spl 32 s = [nm,dec a,dec b,dec c]) ∧ ∃ why,qb7 prog 143 [.str s,iv k,iv 3] (noP why)) :=by
 have hb :=qf7 32 s
 by_cases h:∃ r,spl 32 s = nm :: r ∧ r.length = 3
 ·obtain ⟨r,e,l⟩ :=h
  rcases r with _ | ⟨p1,_ | ⟨p2,_ | ⟨p3,_ | ⟨p4,r⟩⟩⟩⟩
  ·cases l
  ·cases l
  ·cases l
  ·have b1 :=hb p1 (by rw [e];simp)
   have b2 :=hb p2 (by rw [e];simp)
   have b3 :=hb p3 (by rw [e];simp)
   rcases qde p1 (by omega) with ⟨a,ha,rfl,q1⟩ | ⟨hn,q1⟩
   ·rcases qde p2 (by omega) with ⟨b,hb,rfl,q2⟩ | ⟨hn,q2⟩
    ·rcases qde p3 (by omega) with ⟨c,hc,rfl,q3⟩ | ⟨hn,q3⟩
     ·exact .inl ⟨a,b,c,⟨ha,hb,hc⟩,e,qsh pn hs e q1 q2 q3⟩
     ·refine .inr ⟨fun ⟨x,y,z,h1,h2⟩ => hn ⟨z,h1.2.2,?_⟩,_,qsi pn hs e q1 q2 q3⟩
      rw [e] at h2
      simp at h2
      exact h2.2.2
    ·refine .inr ⟨fun ⟨x,y,z,h1,h2⟩ => hn ⟨y,h1.2.1,?_⟩,_,qsj pn hs e q1 q2⟩
     rw [e] at h2
     simp at h2
     exact h2.2.1
   ·refine .inr ⟨fun ⟨x,y,z,h1,h2⟩ => hn ⟨x,h1.1,?_⟩,_,qsk pn hs e q1⟩
    rw [e] at h2
    simp at h2
    exact h2.1
  ·simp at l
 ·exact .inr ⟨fun ⟨a,b,c,_,h2⟩ => h ⟨_,h2,rfl⟩,_,qp7 pn hs h⟩
end
end Go.Abs.Seat
namespace Go.Abs.Seat
noncomputable section
open Go Go.Abs Go.Proofs.Tryz
set_option maxRecDepth 100000
set_option maxHeartbeats 40000000
attribute [local irreducible] IntKind.wrap pEq
theorem qe4 {l:List (List UInt8)} {i:Nat} (h:i < l.length):nth (stA l) (i * 1) = some (.str (gB l i)) :=by
 rw [qg5,Nat.mul_one]
 unfold stA gB
 rw [List.getElem?_map,List.getElem?_eq_getElem h]
 simp [List.getD,h]
end
end Go.Abs.Seat
