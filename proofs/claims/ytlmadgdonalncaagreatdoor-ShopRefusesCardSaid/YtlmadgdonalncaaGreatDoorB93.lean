/-
  All lists of workers, as the document says.
-/
import Derived.Test.YtlmadgdonalncaaGreatDoorU16
namespace Go.Abs.Seat
noncomputable section
open Go Go.Abs Go.Proofs.Tryz
set_option maxRecDepth 100000
set_option maxHeartbeats 40000000
attribute [local irreducible] IntKind.wrap pEq
def exR (x:List Int) (n:Nat):List (List Int) :=(List.range n).map fun n => x ++ [Int.ofNat n]
def exF (w:Nat):List (List Int) → List (List Int)
 | [] => []
 |x :: r => exR x w ++ exF w r
def alP (w:Nat):Nat → List (List Int)
 | 0 => [[]]
 |i + 1 => exF w (alP w i)
def exP (w:Nat) (L:List (List Int)) (k n:Nat):List (List Int) :=exF w (L.take k) ++ exR (gs L k) n
theorem qvu (x:List Int) (n:Nat):exR x (n + 1) = exR x n ++ [x ++ [Int.ofNat n]] :=by
 unfold exR
 rw [List.range_succ,List.map_append];rfl
theorem qtu (w:Nat):∀ a b,exF w (a ++ b) = exF w a ++ exF w b
 | [],_ => rfl
 |x :: r,b => by rw [List.cons_append,exF,qtu w r b,exF,List.append_assoc]
theorem qvw (w:Nat) (L:List (List Int)) (k n:Nat):exP w L k (n + 1) = exP w L k n ++ [gs L k ++ [Int.ofNat n]] :=by
 unfold exP
 rw [qvu,List.append_assoc]
theorem qy5 (w:Nat) (L:List (List Int)) {k:Nat} (h:k < L.length):exP w L k w = exP w L (k + 1) 0 :=by
 unfold exP
 rw [List.take_succ_eq_append_getElem h,qtu]
 have e:gs L k = L[k] :=by simp [gs,List.getD,h]
 rw [e]
 simp [exF,exR]
theorem qtr (w:Nat) (L:List (List Int)):exP w L L.length 0 = exF w L :=by
 unfold exP
 rw [List.take_length]
 simp [exR]
theorem qtq (x:List Int) (n:Nat):(exR x n).length = n :=by unfold exR;rw [List.length_map,List.length_range]
theorem qnt (w:Nat):∀ L,(exF w L).length = L.length * w
 | [] => by simp [exF]
 |x :: r => by rw [exF,List.length_append,qtq,qnt w r,List.length_cons,Nat.succ_mul];omega
theorem qld (w:Nat):∀ i,(alP w i).length = w ^ i
 | 0 => rfl
 |i + 1 => by rw [alP,qnt,qld w i,Nat.pow_succ]
theorem qns {w:Nat} {L:List (List Int)} {k n:Nat} (_hk:k ≤ L.length) (hn:n ≤ w):(exP w L k n).length ≤ L.length * w + w :=by
 unfold exP
 rw [List.length_append,qnt,qtq,List.length_take]
 have:min k L.length * w ≤ L.length * w :=Nat.mul_le_mul_right _ (Nat.min_le_right _ _)
 omega
theorem qtt {w:Nat}:∀ {L:List (List Int)} {z:List Int},z ∈ exF w L ↔ ∃ x n,x ∈ L ∧ n < w ∧ z = x ++ [Int.ofNat n]
 | [],z => ⟨fun h => (by cases h),fun ⟨_,_,h,_⟩ => (by cases h)⟩
 |y :: r,z => by
  rw [exF,List.mem_append,qtt (L :=r)]
  constructor
  ·rintro (h | ⟨x,n,h1,h2⟩)
   ·unfold exR at h
    obtain ⟨n,h1,h2⟩ :=List.mem_map.1 h
    exact ⟨y,n,List.mem_cons_self ..,List.mem_range.1 h1,h2.symm⟩
   ·exact ⟨x,n,List.mem_cons_of_mem _ h1,h2⟩
  ·rintro ⟨x,n,h1,h2,h3⟩
   rcases List.mem_cons.1 h1 with rfl | h1
   ·exact .inl (List.mem_map.2 ⟨n,List.mem_range.2 h2,h3.symm⟩)
   ·exact .inr ⟨x,n,h1,h2,h3⟩
theorem qir {w:Nat}:∀ {i:Nat} {z:List Int},z ∈ alP w i → z.length = i ∧ ∀ j,j < i → 0 ≤ gi z j ∧ gi z j < (w:Int)
 | 0,z,h => by
  have:z = [] :=by simpa [alP] using h
  subst this
  exact ⟨rfl,fun j hj => absurd hj (Nat.not_lt_zero _)⟩
 |i + 1,z,h => by
  obtain ⟨x,n,h1,h2,rfl⟩ :=qtt.1 h
  obtain ⟨k1,k2⟩ :=qir h1
  refine ⟨by rw [List.length_append,k1];rfl,fun j hj => ?_⟩
  by_cases e:j < i
  ·have e1:gi (x ++ [Int.ofNat n]) j = gi x j :=by
    show List.getD _ _ _ = List.getD _ _ _
    simp [List.getD,List.getElem?_append_left (show j < x.length by omega)]
   rw [e1];exact k2 j e
  ·obtain rfl:j = i :=by omega
   have e1:gi (x ++ [Int.ofNat n]) j = Int.ofNat n :=by
    show List.getD _ _ _ = _
    rw [← k1]
    simp [List.getD]
   rw [e1]
   exact ⟨Int.natCast_nonneg n,by show (n:Int) < (w:Int);omega⟩
theorem qt8 {w i:Nat} (hi:1 ≤ i) {k:Nat} (hk:k < (alP w i).length):∃ x r,gs (alP w i) k = x :: r :=by
 have hm:gs (alP w i) k ∈ alP w i :=by
  have e:gs (alP w i) k = (alP w i)[k] :=by simp [gs,List.getD,hk]
  rw [e];exact List.getElem_mem _
 have hl :=(qir hm).1
 cases hg:gs (alP w i) k with
 |nil => rw [hg] at hl;simp at hl;omega
 |cons x r => exact ⟨x,r,rfl⟩
theorem elPl (l:List Int) (n:Nat) {k d:Nat} (h:k = l.length + 1):WkV (.lst (ivs l ++ [nv n]) k (.ch d)) (sv (l ++ [Int.ofNat n])) :=by
 rw [qp2 (show l ++ [Int.ofNat n] ≠ [] by simp)]
 exact qmd (qfp l (Int.ofNat n)).symm (by rw [List.length_append,h];rfl)
theorem qmy {w m:Nat} (hw:1 ≤ w ∧ w ≤ 3) (hm:1 ≤ m ∧ m ≤ 6):Pure prog 77 [nv w,nv m] (.lst (svs (alP w m)) (alP w m).length .no) :=by
 have lv :=qa4 (alP w m)
 refine qan hE rfl (by repeat' first|exact trivial|assumption|exact qaf _|exact fun _ h => nomatch h|apply And.intro) (by repeat' first|exact trivial|assumption|exact qaf _|exact fun _ h => nomatch h|apply And.intro) fun S q pc hS hq hC hE => ?_
 conv => whnf
 refine qaw hE hS (A :=Nat) [0,1] (fun i => [(5,.lst (svs (alP w i)) (alP w i).length .no),(6,nv i)]) (fun _ => []) (fun _ => []) (fun i => i ≤ m) (fun i => m - i) 0 (kle rfl) rfl (zhg 0) (Nat.zero_le _) ?_
 intro i hi N hN
 obtain rfl:N = 0 :=hN
 by_cases hi2:i < m
 ·have hi1:IntKind.i64.wrap (Int.ofNat i + 1) = Int.ofNat (i + 1) :=qa1 (m :=i + 1) (by omega)
  cases i with
  |zero =>
   conv => whnf
   refine qaa (qau hi2) ?_
   conv => whnf
   refine qah hE hS ?_
   conv => whnf
   refine qah hE hS ?_
   conv => whnf
   refine qaa (decide_eq_true (show (0:Int) < Int.ofNat w from Int.ofNat_lt.2 hw.1)) ?_
   conv => whnf
   have h01:IntKind.i64.wrap (0 + 1) = Int.ofNat 1 :=qa1 (m :=1) (by omega)
   refine qaw hE hS (A :=Nat × List (List Int)) [0,1,5,6,8] (fun (n,M) => [(7,.lst (svs M) M.length (.ch 1)),(9,nv n)]) (fun (_,M) => [(1,.chain M.length 1 24)]) (fun _ => []) (fun (n,M) => n ≤ w ∧ M = exP w [[]] 0 n) (fun (n,_) => w - n) (1,[[Int.ofNat 0]]) (Nat.zero_le _) rfl (zhg 2) ⟨hw.1,rfl⟩ ?_
   rintro ⟨n,M⟩ ⟨hn,hM⟩ N hN
   obtain rfl:N = 2 :=hN
   have hn:n ≤ w :=hn
   have hM:M = exP w [[]] 0 n :=hM
   have hMl:M.length ≤ 1000 :=by
    rw [hM]
    exact Nat.le_trans (qns (Nat.zero_le _) hn) (by show 1 * w + w ≤ 1000;omega)
   conv => whnf
   by_cases hn2:n < w
   ·have hn1:IntKind.i64.wrap (Int.ofNat n + 1) = Int.ofNat (n + 1) :=qa1 (m :=n + 1) (by omega)
    refine qaa (qau hn2) ?_
    conv => whnf
    refine qaa (decide_eq_true (show (M.length + (0 + 1)) * 24 ≤ 140737488355328 by omega)) ?_
    conv => whnf
    refine qaa (decide_eq_true (show M.length + (0 + 1) ≤ 9223372036854775807 by omega)) ?_
    conv => whnf
    refine qaa (qcq M) ?_
    conv => whnf
    refine qaa (decide_eq_true rfl) ?_
    conv => whnf
    exact ⟨(n + 1,M ++ [[Int.ofNat n]]),⟨hn2,by rw [qvw,hM];rfl⟩,by show w - (n + 1) < w - n;omega,Nat.le_refl _,(zhg 2)⟩
   ·refine qab (qa6 hn2) ?_
    conv => whnf
    refine .inl ?_
    conv => whnf
    have en:w = n :=by omega
    subst en
    refine qah hE hS ?_
    conv => whnf
    refine qab ((show decide (IntKind.i64.wrap (0 + 1) < ((alP w 0).length:Int)) = false by rw [h01];rfl)) ?_
    conv => whnf
    have hM1:M = alP w 1 :=by rw [hM,qy5 w [[]] (k :=0) Nat.one_pos];exact qtr w [[]]
    subst hM1
    exact ⟨1,hi2,by omega,Nat.le_refl _,(zhg 0)⟩
  |succ i =>
   have hL0:0 < (alP w (i + 1)).length :=by rw [qld];exact Nat.pow_pos (by omega)
   obtain ⟨x,r,hx⟩ :=qt8 (w :=w) (i :=i + 1) (by omega) (k :=0) hL0
   have hn3 :=qcw (l :=alP w (i + 1)) (i :=0) hL0
   rw [hx,show sv (x :: r) = nl (x :: r) from rfl] at hn3
   have hrl:r.length + 1 = i + 1 :=by
    have :=(qir (w :=w) (i :=i + 1) (z :=x :: r) (by rw [← hx];exact qie _ hL0)).1
    simpa using this
   conv => whnf
   refine qaa (qau hi2) ?_
   conv => whnf
   refine qah hE hS ?_
   conv => whnf
   refine qaa (decide_eq_true (show (0:Int) < ((alP w (i + 1)).length:Int) by omega)) ?_
   conv => whnf
   refine qah hE hS ?_
   conv => whnf
   refine qaa (decide_eq_true (show (0:Int) < Int.ofNat w from Int.ofNat_lt.2 hw.1)) ?_
   conv => whnf
   refine qaa (qal (i :=0) hL0) ?_
   conv => whnf
   refine qae (nthP hn3) ?_
   conv => whnf
   refine qae (qdw (e :=3) (ys :=ivs (x :: r)) (m :=(x :: r).length) (own :=.no) (l :=ivs (x :: r)) (by kernel_rfl) rfl (qcd _)) ?_
   conv => whnf
   refine qaa (qbi (x :: r)) ?_
   conv => whnf
   refine qaa (decide_eq_true (show (r.length + 1) * 8 ≤ 140737488355328 by omega)) ?_
   conv => whnf
   refine qaa (decide_eq_true (show r.length + 1 ≤ 9223372036854775807 by omega)) ?_
   conv => whnf
   refine qaa (decide_eq_true (show (r.length + 1 + (0 + 1)) * 8 ≤ 140737488355328 by omega)) ?_
   conv => whnf
   refine qaa (decide_eq_true (show r.length + 1 + (0 + 1) ≤ 9223372036854775807 by omega)) ?_
   conv => whnf
   refine qaa ((show qby (ivs (x :: r)) ((r.length + 1) * 1) = true from qc4 (x :: r))) ?_
   conv => whnf
   refine qaa (decide_eq_true rfl) ?_
   conv => whnf
   have hb7:(alP w (i + 1)).length * w + w ≤ 732 :=by
    rw [qld]
    have h1:w ^ (i + 1) * w = w ^ (i + 2) :=(Nat.pow_succ ..).symm
    rw [h1]
    have h2:w ^ (i + 2) ≤ 3 ^ (i + 2) :=Nat.pow_le_pow_left hw.2 _
    have h3:3 ^ (i + 2) ≤ 3 ^ 6 :=Nat.pow_le_pow_right (by decide) (by omega)
    omega
   have hLl:(alP w (i + 1)).length ≤ 732 :=by
    have :=Nat.le_mul_of_pos_right (alP w (i + 1)).length (show 0 < w by omega)
    omega
   have h01:IntKind.i64.wrap (0 + 1) = Int.ofNat 1 :=qa1 (m :=1) (by omega)
   have hM00:[x :: r ++ [Int.ofNat 0]] = exP w (alP w (i + 1)) 0 1 :=by rw [qvw,hx];rfl
   refine qaw hE hS (A :=Nat × List (List Int)) [0,1,5,6,8] (fun (n,M) => [(7,.lst (svs M) M.length (.ch 1)),(9,nv n)]) (fun (_,M) => [(1,.chain M.length 1 24)]) (fun _ => []) (fun (n,M) => n ≤ w ∧ M = exP w (alP w (i + 1)) 0 n) (fun (n,_) => w - n) (1,[x :: r ++ [Int.ofNat 0]]) (Nat.zero_le _) rfl (zhg 2) ⟨hw.1,hM00⟩ ?_
   rintro ⟨n,M⟩ ⟨hn,hM⟩ N hN
   obtain rfl:N = 2 :=hN
   have hn:n ≤ w :=hn
   have hM:M = exP w (alP w (i + 1)) 0 n :=hM
   have hMl:M.length ≤ 1000 :=by
    rw [hM]
    have :=qns (w :=w) (L :=alP w (i + 1)) (k :=0) (n :=n) (by omega) hn
    omega
   conv => whnf
   by_cases hn2:n < w
   ·have hn1:IntKind.i64.wrap (Int.ofNat n + 1) = Int.ofNat (n + 1) :=qa1 (m :=n + 1) (by omega)
    refine qaa (qau hn2) ?_
    conv => whnf
    refine qaa (qal (i :=0) hL0) ?_
    conv => whnf
    refine qae (nthP hn3) ?_
    conv => whnf
    refine qae (qdw (e :=3) (ys :=ivs (x :: r)) (m :=(x :: r).length) (own :=.no) (l :=ivs (x :: r)) (by kernel_rfl) rfl (qcd _)) ?_
    conv => whnf
    refine qaa (qbi (x :: r)) ?_
    conv => whnf
    refine qaa (decide_eq_true (show (r.length + 1) * 8 ≤ 140737488355328 by omega)) ?_
    conv => whnf
    refine qaa (decide_eq_true (show r.length + 1 ≤ 9223372036854775807 by omega)) ?_
    conv => whnf
    refine qaa (decide_eq_true (show (r.length + 1 + (0 + 1)) * 8 ≤ 140737488355328 by omega)) ?_
    conv => whnf
    refine qaa (decide_eq_true (show r.length + 1 + (0 + 1) ≤ 9223372036854775807 by omega)) ?_
    conv => whnf
    refine qaa ((show qby (ivs (x :: r)) ((r.length + 1) * 1) = true from qc4 (x :: r))) ?_
    conv => whnf
    refine qaa (decide_eq_true rfl) ?_
    conv => whnf
    refine qaa (decide_eq_true (show (M.length + (0 + 1)) * 24 ≤ 140737488355328 by omega)) ?_
    conv => whnf
    refine qaa (decide_eq_true (show M.length + (0 + 1) ≤ 9223372036854775807 by omega)) ?_
    conv => whnf
    refine qaa (qcq M) ?_
    conv => whnf
    refine qaa (decide_eq_true rfl) ?_
    conv => whnf
    exact ⟨(n + 1,M ++ [x :: r ++ [Int.ofNat n]]),⟨hn2,by rw [qvw,hx,hM]⟩,by show w - (n + 1) < w - n;omega,Nat.le_refl _,(zhg 2)⟩
   ·refine qab (qa6 hn2) ?_
    conv => whnf
    refine .inl ?_
    conv => whnf
    have en:w = n :=by omega
    subst en
    refine qaw hE hS (A :=Nat × List (List Int)) [0,1,5,6] (fun (k,M) => [(7,.lst (svs M) M.length (.ch 1)),(8,nv k)]) (fun (_,M) => [(1,.chain M.length 1 24)]) (fun _ => []) (fun (k,M) => k ≤ (alP w (i + 1)).length ∧ M = exP w (alP w (i + 1)) k 0) (fun (k,_) => (alP w (i + 1)).length - k) (1,M) (Nat.zero_le _) rfl (zhg 2) ⟨hL0,by rw [hM];exact qy5 w _ hL0⟩ ?_
    rintro ⟨k,M⟩ ⟨hk,hM⟩ N hN
    obtain rfl:N = 2 :=hN
    have hk:k ≤ (alP w (i + 1)).length :=hk
    have hM:M = exP w (alP w (i + 1)) k 0 :=hM
    by_cases hk2:k < (alP w (i + 1)).length
    ·have hk1:IntKind.i64.wrap (Int.ofNat k + 1) = Int.ofNat (k + 1) :=qa1 (m :=k + 1) (by omega)
     obtain ⟨x,r,hx⟩ :=qt8 (w :=w) (i :=i + 1) (by omega) (k :=k) hk2
     have hn3 :=qcw (l :=alP w (i + 1)) (i :=k) hk2
     rw [hx,show sv (x :: r) = nl (x :: r) from rfl] at hn3
     have hrl:r.length + 1 = i + 1 :=by
      have :=(qir (w :=w) (i :=i + 1) (z :=x :: r) (by rw [← hx];exact qie _ hk2)).1
      simpa using this
     conv => whnf
     refine qaa (qau hk2) ?_
     conv => whnf
     refine qaw hE hS (A :=Nat × List (List Int)) [0,1,5,6,8] (fun (n,M) => [(7,.lst (svs M) M.length (.ch 1)),(9,nv n)]) (fun (_,M) => [(1,.chain M.length 1 24)]) (fun _ => []) (fun (n,M) => n ≤ w ∧ M = exP w (alP w (i + 1)) k n) (fun (n,_) => w - n) (0,M) (Nat.zero_le _) rfl (zhg 2) ⟨Nat.zero_le _,hM⟩ ?_
     rintro ⟨n,M⟩ ⟨hn,hM⟩ N hN
     obtain rfl:N = 2 :=hN
     have hn:n ≤ w :=hn
     have hM:M = exP w (alP w (i + 1)) k n :=hM
     have hMl:M.length ≤ 1000 :=by
      rw [hM]
      have :=qns (w :=w) (L :=alP w (i + 1)) (k :=k) (n :=n) (by omega) hn
      omega
     conv => whnf
     by_cases hn2:n < w
     ·have hn1:IntKind.i64.wrap (Int.ofNat n + 1) = Int.ofNat (n + 1) :=qa1 (m :=n + 1) (by omega)
      refine qaa (qau hn2) ?_
      conv => whnf
      refine qaa (qal hk2) ?_
      conv => whnf
      refine qae (nthP hn3) ?_
      conv => whnf
      refine qae (qdw (e :=3) (ys :=ivs (x :: r)) (m :=(x :: r).length) (own :=.no) (l :=ivs (x :: r)) (by kernel_rfl) rfl (qcd _)) ?_
      conv => whnf
      refine qaa (qbi (x :: r)) ?_
      conv => whnf
      refine qaa (decide_eq_true (show (r.length + 1) * 8 ≤ 140737488355328 by omega)) ?_
      conv => whnf
      refine qaa (decide_eq_true (show r.length + 1 ≤ 9223372036854775807 by omega)) ?_
      conv => whnf
      refine qaa (decide_eq_true (show (r.length + 1 + (0 + 1)) * 8 ≤ 140737488355328 by omega)) ?_
      conv => whnf
      refine qaa (decide_eq_true (show r.length + 1 + (0 + 1) ≤ 9223372036854775807 by omega)) ?_
      conv => whnf
      refine qaa ((show qby (ivs (x :: r)) ((r.length + 1) * 1) = true from qc4 (x :: r))) ?_
      conv => whnf
      refine qaa (decide_eq_true rfl) ?_
      conv => whnf
      refine qaa (decide_eq_true (show (M.length + (0 + 1)) * 24 ≤ 140737488355328 by omega)) ?_
      conv => whnf
      refine qaa (decide_eq_true (show M.length + (0 + 1) ≤ 9223372036854775807 by omega)) ?_
      conv => whnf
      refine qaa (qcq M) ?_
      conv => whnf
      refine qaa (decide_eq_true rfl) ?_
      conv => whnf
      exact ⟨(n + 1,M ++ [x :: r ++ [Int.ofNat n]]),⟨hn2,by rw [qvw,hx,hM]⟩,by show w - (n + 1) < w - n;omega,Nat.le_refl _,(zhg 2)⟩
     ·refine qab (qa6 hn2) ?_
      conv => whnf
      refine .inl ?_
      conv => whnf
      have en:w = n :=by omega
      subst en
      exact ⟨(k + 1,M),⟨hk2,by rw [hM];exact qy5 w _ hk2⟩,by show (alP w (i + 1)).length - (k + 1) < (alP w (i + 1)).length - k;omega,Nat.le_refl _,(zhg 2)⟩
    ·conv => whnf
     refine qab (qa6 hk2) ?_
     conv => whnf
     refine .inl ?_
     conv => whnf
     have ek:k = (alP w (i + 1)).length :=by omega
     have hM1:M = alP w (i + 2) :=by rw [hM,ek];exact qtr w _
     subst hM1
     exact ⟨i + 2,hi2,by omega,Nat.le_refl _,(zhg 0)⟩
 ·conv => whnf
  refine qab (qa6 hi2) ?_
  conv => whnf
  refine .inl ?_
  conv => whnf
  obtain rfl:i = m :=by omega
  exact ⟨_,rfl,Wk.refl _⟩
end
end Go.Abs.Seat
