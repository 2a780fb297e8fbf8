/-
  The document's lists of numbers.
-/
import Derived.Test.YtlmadgdonalncaaGreatDoorU16
namespace Go.Abs.Seat
noncomputable section
open Go Go.Abs Go.Proofs.Tryz
set_option maxRecDepth 100000
set_option maxHeartbeats 40000000
attribute [local irreducible] IntKind.wrap pEq
theorem qfn (a k:Nat):Pure prog 68 [nv a,nv (a + k),nv 0] (lV (lsts 0 a k)) :=by
 have e:lsts 0 a k = [[]] :=by rw [lsts]
 rw [e]
 refine qan hE rfl (by repeat' first|exact trivial|assumption|exact qaf _|exact fun _ h => nomatch h|apply And.intro) (by repeat' first|exact trivial|assumption|exact qaf _|exact fun _ h => nomatch h|apply And.intro) fun S q pc hS hq hC hE => ?_
 conv => whnf
 exact ⟨_,rfl,qi0 (xs :=[.nils]) (n :=1) rfl⟩
theorem qqo (a k:Nat) (hk:a + k ≤ 8):Pure prog 68 [nv a,nv (a + k),nv 1] (lV (lsts 1 a k)) :=by
 have lv :=qz6 (lsts 1 a k)
 refine qan hE rfl (by repeat' first|exact trivial|assumption|exact qaf _|exact fun _ h => nomatch h|apply And.intro) (by repeat' first|exact trivial|assumption|exact qaf _|exact fun _ h => nomatch h|apply And.intro) fun S q pc hS hq hC hE => ?_
 conv => whnf
 refine qaw hE hS (A :=Nat × List (List Int) × AV × List AObj) [0,1,2] (fun (n,_,b,_) => [(7,b),(8,nv n)]) (fun _ => []) (fun a => a.2.2.2) (fun (n,M,b,ux) => a ≤ n ∧ n ≤ a + k ∧ lsts 1 a k = M ++ lsts 1 n (a + k - n) ∧ (M = [] ∧ b = .nils ∧ ux = [] ∨ M ≠ [] ∧ b = .lst (svs M) M.length (.ch 0) ∧ ux = [.chain M.length 1 24])) (fun (n,_,_,_) => a + k - n) (a,[],.nils,[]) (kle rfl) rfl (zhg 0) ⟨Nat.le_refl _,Nat.le_add_right _ _,by rw [Nat.add_sub_cancel_left];rfl,.inl ⟨rfl,rfl,rfl⟩⟩ ?_
 rintro ⟨n,M,b,ux⟩ ⟨hn,hn2,he,⟨rfl,rfl,rfl⟩ | ⟨hne,rfl,rfl⟩⟩ N hN
 ·obtain rfl:N = 0 :=hN
  conv => whnf
  by_cases h:n < a + k
  ·have p :=qfn (n + 1) (a + k - (n + 1))
   rw [show n + 1 + (a + k - (n + 1)) = a + k by omega,show lsts 0 (n + 1) (a + k - (n + 1)) = [[]] by rw [lsts],show lV [[]] = .lst [.nils] 1 .no from rfl] at p
   rw [show decide (Int.ofNat n < Int.ofNat (a + k)) = true from qau h]
   conv => whnf
   rw [show IntKind.i64.wrap (Int.ofNat n + 1) = Int.ofNat (n + 1) from qa1 (m :=n + 1) (by omega),show IntKind.i64.wrap (Int.ofNat 1 - 1) = Int.ofNat 0 from qa1 (m :=0) (by omega)]
   conv => whnf
   refine qac hC (p) ?_
   conv => whnf
   refine qah hE hS ?_
   conv => whnf
   rw [show IntKind.i64.wrap (0 + 1) = 1 from qd7 (by decide) (by decide)]
   conv => whnf
   refine qah hE hS ?_
   conv => whnf
   have hn1:IntKind.i64.wrap (Int.ofNat n + 1) = Int.ofNat (n + 1) :=qa1 (m :=n + 1) (by omega)
   have e2:a + k - n = (a + k - (n + 1)) + 1 :=by omega
   refine ⟨(n + 1,[[Int.ofNat n]],.lst (svs [[Int.ofNat n]]) 1 (.ch 0),[.chain 1 1 24]),⟨by omega,by omega,by rw [he,e2,qpb];rfl,.inr ⟨by simp,rfl,rfl⟩⟩,by show a + k - (n + 1) < a + k - n;omega,Nat.zero_le _,(zhg 1)⟩
  ·rw [show decide (Int.ofNat n < Int.ofNat (a + k)) = false from qa6 h]
   conv => whnf
   refine .inl ?_
   conv => whnf
   rw [he,show a + k - n = 0 by omega,qf3]
   exact ⟨_,rfl,Wk.refl _⟩
 ·obtain rfl:N = 1 :=hN
  have ml :=qkr k 1 a
  have kp8:2 ^ k ≤ 2 ^ 8 :=Nat.pow_le_pow_right (by omega) (by omega)
  rw [he,List.length_append] at ml
  conv => whnf
  by_cases h:n < a + k
  ·have p :=qfn (n + 1) (a + k - (n + 1))
   rw [show n + 1 + (a + k - (n + 1)) = a + k by omega,show lsts 0 (n + 1) (a + k - (n + 1)) = [[]] by rw [lsts],show lV [[]] = .lst [.nils] 1 .no from rfl] at p
   rw [show decide (Int.ofNat n < Int.ofNat (a + k)) = true from qau h]
   conv => whnf
   rw [show IntKind.i64.wrap (Int.ofNat n + 1) = Int.ofNat (n + 1) from qa1 (m :=n + 1) (by omega),show IntKind.i64.wrap (Int.ofNat 1 - 1) = Int.ofNat 0 from qa1 (m :=0) (by omega)]
   conv => whnf
   refine qac hC (p) ?_
   conv => whnf
   refine qah hE hS ?_
   conv => whnf
   refine qaa (decide_eq_true (show (M.length + (0 + 1)) * 24 ≤ 140737488355328 by omega)) ?_
   conv => whnf
   refine qaa (decide_eq_true (show M.length + (0 + 1) ≤ 9223372036854775807 by omega)) ?_
   conv => whnf
   refine qaa (qcq M) ?_
   conv => whnf
   refine qaa (decide_eq_true rfl) ?_
   conv => whnf
   rw [show IntKind.i64.wrap (0 + 1) = 1 from qd7 (by decide) (by decide)]
   conv => whnf
   refine qah hE hS ?_
   conv => whnf
   have hn1:IntKind.i64.wrap (Int.ofNat n + 1) = Int.ofNat (n + 1) :=qa1 (m :=n + 1) (by omega)
   have e2:a + k - n = (a + k - (n + 1)) + 1 :=by omega
   refine ⟨(n + 1,M ++ [[Int.ofNat n]],.lst (svs (M ++ [[Int.ofNat n]])) (M ++ [[Int.ofNat n]]).length (.ch 0),[.chain (M ++ [[Int.ofNat n]]).length 1 24]),⟨by omega,by omega,by rw [he,e2,qpb,List.append_assoc];rfl,.inr ⟨by simp,rfl,rfl⟩⟩,by show a + k - (n + 1) < a + k - n;omega,Nat.le_refl _,(zhg 1)⟩
  ·rw [show decide (Int.ofNat n < Int.ofNat (a + k)) = false from qa6 h]
   conv => whnf
   refine .inl ?_
   conv => whnf
   rw [he,show a + k - n = 0 by omega,qf3,List.append_nil,lV,if_neg hne]
   exact ⟨_,rfl,qi0 rfl⟩
theorem qnk (m:Nat) (ih:∀ a k,a + k ≤ 8 → Pure prog 68 [nv a,nv (a + k),nv (m + 1)] (lV (lsts (m + 1) a k))) (a k:Nat) (hk:a + k ≤ 8) (hm:m ≤ 8):Pure prog 68 [nv a,nv (a + k),nv (m + 2)] (lV (lsts (m + 2) a k)) :=by
 have lv :=qz6 (lsts (m + 2) a k)
 have ml :=qkr k (m + 2) a
 have kp8:2 ^ k ≤ 2 ^ 8 :=Nat.pow_le_pow_right (by omega) (by omega)
 refine qan hE rfl (by repeat' first|exact trivial|assumption|exact qaf _|exact fun _ h => nomatch h|apply And.intro) (by repeat' first|exact trivial|assumption|exact qaf _|exact fun _ h => nomatch h|apply And.intro) fun S q pc hS hq hC hE => ?_
 conv => whnf
 rw [show (Int.ofNat (m + 2) == 0) = false from rfl]
 conv => whnf
 refine qaw hE hS (A :=Nat × List (List Int) × AV × List AObj) [0,1,2] (fun (n,_,b,_) => [(7,b),(8,nv n)]) (fun _ => []) (fun a => a.2.2.2) (fun (n,M,b,ux) => a ≤ n ∧ n ≤ a + k ∧ lsts (m + 2) a k = M ++ lsts (m + 2) n (a + k - n) ∧ (M = [] ∧ b = .nils ∧ ux = [] ∨ M ≠ [] ∧ b = .lst (svs M) M.length (.ch 1) ∧ ∃ j,ux = [.chain j 1 3,.chain M.length 1 24])) (fun (n,_,_,_) => a + k - n) (a,[],.nils,[]) (kle rfl) rfl (zhg 0) ⟨Nat.le_refl _,Nat.le_add_right _ _,by rw [Nat.add_sub_cancel_left];rfl,.inl ⟨rfl,rfl,rfl⟩⟩ ?_
 rintro ⟨n,M,b,ux⟩ ⟨hn,hn2,he,⟨rfl,rfl,rfl⟩ | ⟨hne,rfl,j,rfl⟩⟩ N hN
 ·obtain rfl:N = 0 :=hN
  conv => whnf
  by_cases h:n < a + k
  ·have p :=ih (n + 1) (a + k - (n + 1)) (by omega)
   have hL :=fun i (h:i < (lsts (m + 1) (n + 1) (a + k - (n + 1))).length) => qly h
   have e2:a + k - n = (a + k - (n + 1)) + 1 :=by omega
   rw [e2,qf2] at he
   have hlen :=congrArg List.length he
   rw [List.length_append,List.length_append,List.length_map] at hlen
   rw [show n + 1 + (a + k - (n + 1)) = a + k by omega] at p
   generalize lsts (m + 1) (n + 1) (a + k - (n + 1)) = L at p hL he hlen
   rw [show decide (Int.ofNat n < Int.ofNat (a + k)) = true from qau h]
   conv => whnf
   rw [show IntKind.i64.wrap (Int.ofNat n + 1) = Int.ofNat (n + 1) from qa1 (m :=n + 1) (by omega),show IntKind.i64.wrap (Int.ofNat (m + 2) - 1) = Int.ofNat (m + 1) from qn9 (m :=m + 2) (by omega) (by omega)]
   have hn1:IntKind.i64.wrap (Int.ofNat n + 1) = Int.ofNat (n + 1) :=qa1 (m :=n + 1) (by omega)
   by_cases hl0:L = []
   ·rw [lV,if_pos hl0] at p
    conv => whnf
    refine qac hC (p) ?_
    conv => whnf
    refine qah hE hS ?_
    conv => whnf
    rw [hl0] at he
    exact ⟨(n + 1,[],.nils,[]),⟨by omega,by omega,he,.inl ⟨rfl,rfl,rfl⟩⟩,by show a + k - (n + 1) < a + k - n;omega,Nat.le_refl _,(zhg 0)⟩
   ·rw [lV,if_neg hl0] at p
    have ls :=qa4 L
    conv => whnf
    refine qac hC (p) ?_
    conv => whnf
    refine qaw hE hS (A :=Nat × List (List Int) × AV × List AObj) [0,1,2,8,9] (fun (i,_,b,_) => [(7,b),(10,nv i)]) (fun _ => []) (fun a => a.2.2.2) (fun (i,M,b,ux) => i ≤ L.length ∧ M = (L.take i).map (Int.ofNat n :: ·) ∧ (M = [] ∧ b = .nils ∧ ux = [] ∨ M ≠ [] ∧ b = .lst (svs M) M.length (.ch 1) ∧ ∃ j,ux = [.chain j 1 3,.chain M.length 1 24])) (fun (i,_,_,_) => L.length - i) (0,[],.nils,[]) (kle rfl) rfl (zhg 0) ⟨Nat.zero_le _,rfl,.inl ⟨rfl,rfl,rfl⟩⟩ ?_
    rintro ⟨i,M,b,ux⟩ ⟨hi,hM,⟨rfl,rfl,rfl⟩ | ⟨hne,rfl,j,rfl⟩⟩ N hN
    ·obtain rfl:N = 0 :=hN
     conv => whnf
     by_cases h2:i < L.length
     ·refine qaa (qau h2) ?_
      conv => whnf
      obtain ⟨x,r,hx,hr⟩ :=hL i h2
      have hn3 :=qcw (l :=L) h2
      rw [hx,show sv (x :: r) = nl (x :: r) from rfl] at hn3
      refine qaa (qal (i :=i) (n :=L.length) h2) ?_
      conv => whnf
      refine qae (nthP hn3) ?_
      conv => whnf
      refine qae (qdw (e :=3) (ys :=ivs (x :: r)) (m :=(x :: r).length) (own :=.no) (l :=ivs (x :: r)) (by kernel_rfl) rfl (qcd _)) ?_
      conv => whnf
      refine qaa (qbi (x :: r)) ?_
      conv => whnf
      refine qaa (decide_eq_true (show (0 + 1 + (r.length + 1)) * 8 ≤ 140737488355328 by omega)) ?_
      conv => whnf
      refine qaa (decide_eq_true (show 0 + 1 + (r.length + 1) ≤ 9223372036854775807 by omega)) ?_
      conv => whnf
      have hi1:IntKind.i64.wrap (Int.ofNat i + 1) = Int.ofNat (i + 1) :=qa1 (m :=i + 1) (by omega)
      exact ⟨(i + 1,[Int.ofNat n :: x :: r],.lst (svs [Int.ofNat n :: x :: r]) 1 (.ch 1),[.chain (0 + 1 + (r.length + 1)) 1 3,.chain 1 1 24]),⟨h2,by rw [qjt _ _ h2,← hM,hx];rfl,.inr ⟨by simp,rfl,_,rfl⟩⟩,by show L.length - (i + 1) < L.length - i;omega,Nat.zero_le _,(zhg 2)⟩
     ·have:i = L.length :=by omega
      subst this
      rw [List.take_length] at hM
      exact absurd (List.map_eq_nil_iff.1 hM.symm) hl0
    ·obtain rfl:N = 2 :=hN
     have hMl :=congrArg List.length hM
     rw [List.length_map,List.length_take] at hMl
     conv => whnf
     by_cases h2:i < L.length
     ·refine qaa (qau h2) ?_
      conv => whnf
      obtain ⟨x,r,hx,hr⟩ :=hL i h2
      have hn3 :=qcw (l :=L) h2
      rw [hx,show sv (x :: r) = nl (x :: r) from rfl] at hn3
      refine qaa (qal (i :=i) (n :=L.length) h2) ?_
      conv => whnf
      refine qae (nthP hn3) ?_
      conv => whnf
      refine qae (qdw (e :=3) (ys :=ivs (x :: r)) (m :=(x :: r).length) (own :=.no) (l :=ivs (x :: r)) (by kernel_rfl) rfl (qcd _)) ?_
      conv => whnf
      refine qaa (qbi (x :: r)) ?_
      conv => whnf
      refine qaa (decide_eq_true (show (0 + 1 + (r.length + 1)) * 8 ≤ 140737488355328 by omega)) ?_
      conv => whnf
      refine qaa (decide_eq_true (show 0 + 1 + (r.length + 1) ≤ 9223372036854775807 by omega)) ?_
      conv => whnf
      refine qaa (decide_eq_true (show (M.length + (0 + 1)) * 24 ≤ 140737488355328 by omega)) ?_
      conv => whnf
      refine qaa (decide_eq_true (show M.length + (0 + 1) ≤ 9223372036854775807 by omega)) ?_
      conv => whnf
      refine qaa (qcq M) ?_
      conv => whnf
      refine qaa (decide_eq_true rfl) ?_
      conv => whnf
      have hi1:IntKind.i64.wrap (Int.ofNat i + 1) = Int.ofNat (i + 1) :=qa1 (m :=i + 1) (by omega)
      exact ⟨(i + 1,M ++ [Int.ofNat n :: x :: r],.lst (svs (M ++ [Int.ofNat n :: x :: r])) (M ++ [Int.ofNat n :: x :: r]).length (.ch 1),[.chain j 1 3,.chain (M ++ [Int.ofNat n :: x :: r]).length 1 24]),⟨h2,by rw [qjt _ _ h2,← hM,hx],.inr ⟨by simp,rfl,_,rfl⟩⟩,by show L.length - (i + 1) < L.length - i;omega,Nat.le_refl _,(zhg 2)⟩
     ·have:i = L.length :=by omega
      subst this
      rw [List.take_length] at hM
      refine qab (qa6 h2) ?_
      conv => whnf
      refine .inl ?_
      conv => whnf
      exact ⟨(n + 1,M,.lst (svs M) M.length (.ch 1),[.chain j 1 3,.chain M.length 1 24]),⟨by omega,by omega,by rw [he,hM];rfl,.inr ⟨hne,rfl,_,rfl⟩⟩,by show a + k - (n + 1) < a + k - n;omega,Nat.zero_le _,(zhg 2)⟩
  ·rw [show decide (Int.ofNat n < Int.ofNat (a + k)) = false from qa6 h]
   conv => whnf
   refine .inl ?_
   conv => whnf
   rw [he,show a + k - n = 0 by omega,qf3]
   exact ⟨_,rfl,Wk.refl _⟩
 ·obtain rfl:N = 2 :=hN
  conv => whnf
  by_cases h:n < a + k
  ·have p :=ih (n + 1) (a + k - (n + 1)) (by omega)
   have hL :=fun i (h:i < (lsts (m + 1) (n + 1) (a + k - (n + 1))).length) => qly h
   have e2:a + k - n = (a + k - (n + 1)) + 1 :=by omega
   rw [e2,qf2] at he
   have hlen :=congrArg List.length he
   rw [List.length_append,List.length_append,List.length_map] at hlen
   rw [show n + 1 + (a + k - (n + 1)) = a + k by omega] at p
   generalize lsts (m + 1) (n + 1) (a + k - (n + 1)) = L at p hL he hlen
   rw [show decide (Int.ofNat n < Int.ofNat (a + k)) = true from qau h]
   conv => whnf
   rw [show IntKind.i64.wrap (Int.ofNat n + 1) = Int.ofNat (n + 1) from qa1 (m :=n + 1) (by omega),show IntKind.i64.wrap (Int.ofNat (m + 2) - 1) = Int.ofNat (m + 1) from qn9 (m :=m + 2) (by omega) (by omega)]
   have hn1:IntKind.i64.wrap (Int.ofNat n + 1) = Int.ofNat (n + 1) :=qa1 (m :=n + 1) (by omega)
   by_cases hl0:L = []
   ·rw [lV,if_pos hl0] at p
    conv => whnf
    refine qac hC (p) ?_
    conv => whnf
    refine qah hE hS ?_
    conv => whnf
    rw [hl0] at he
    exact ⟨(n + 1,M,.lst (svs M) M.length (.ch 1),[.chain j 1 3,.chain M.length 1 24]),⟨by omega,by omega,he,.inr ⟨hne,rfl,_,rfl⟩⟩,by show a + k - (n + 1) < a + k - n;omega,Nat.le_refl _,(zhg 2)⟩
   ·rw [lV,if_neg hl0] at p
    have ls :=qa4 L
    conv => whnf
    refine qac hC (p) ?_
    conv => whnf
    refine qaw hE hS (A :=Nat × List (List Int)) [0,1,2,8,9] (fun (i,M) => [(7,.lst (svs M) M.length (.ch 1)),(10,nv i)]) (fun (_,M) => [(1,.chain M.length 1 24)]) (fun _ => []) (fun (i,M') => i ≤ L.length ∧ M' = M ++ (L.take i).map (Int.ofNat n :: ·)) (fun (i,_) => L.length - i) (0,M) (kle rfl) rfl (zhg 2) ⟨Nat.zero_le _,(List.append_nil _).symm⟩ ?_
    rintro ⟨i,M'⟩ ⟨hi,hM⟩ N hN
    obtain rfl:N = 2 :=hN
    have hMl :=congrArg List.length hM
    rw [List.length_append,List.length_map,List.length_take] at hMl
    have ls' :=qa4 M'
    conv => whnf
    by_cases h2:i < L.length
    ·refine qaa (qau h2) ?_
     conv => whnf
     obtain ⟨x,r,hx,hr⟩ :=hL i h2
     have hn3 :=qcw (l :=L) h2
     rw [hx,show sv (x :: r) = nl (x :: r) from rfl] at hn3
     refine qaa (qal (i :=i) (n :=L.length) h2) ?_
     conv => whnf
     refine qae (nthP hn3) ?_
     conv => whnf
     refine qae (qdw (e :=3) (ys :=ivs (x :: r)) (m :=(x :: r).length) (own :=.no) (l :=ivs (x :: r)) (by kernel_rfl) rfl (qcd _)) ?_
     conv => whnf
     refine qaa (qbi (x :: r)) ?_
     conv => whnf
     refine qaa (decide_eq_true (show (0 + 1 + (r.length + 1)) * 8 ≤ 140737488355328 by omega)) ?_
     conv => whnf
     refine qaa (decide_eq_true (show 0 + 1 + (r.length + 1) ≤ 9223372036854775807 by omega)) ?_
     conv => whnf
     refine qaa (decide_eq_true (show (M'.length + (0 + 1)) * 24 ≤ 140737488355328 by omega)) ?_
     conv => whnf
     refine qaa (decide_eq_true (show M'.length + (0 + 1) ≤ 9223372036854775807 by omega)) ?_
     conv => whnf
     refine qaa (qcq M') ?_
     conv => whnf
     refine qaa (decide_eq_true rfl) ?_
     conv => whnf
     have hi1:IntKind.i64.wrap (Int.ofNat i + 1) = Int.ofNat (i + 1) :=qa1 (m :=i + 1) (by omega)
     exact ⟨(i + 1,M' ++ [Int.ofNat n :: x :: r]),⟨h2,by rw [qjt _ _ h2,← List.append_assoc,← hM,hx]⟩,by show L.length - (i + 1) < L.length - i;omega,Nat.le_refl _,(zhg 2)⟩
    ·have:i = L.length :=by omega
     subst this
     rw [List.take_length] at hM
     refine qab (qa6 h2) ?_
     conv => whnf
     refine .inl ?_
     conv => whnf
     exact ⟨(n + 1,M',.lst (svs M') M'.length (.ch 1),[.chain j 1 3,.chain M'.length 1 24]),⟨by omega,by omega,by rw [he,hM,List.append_assoc],.inr ⟨by rw [hM];simp [hne],rfl,_,rfl⟩⟩,by show a + k - (n + 1) < a + k - n;omega,Nat.le_refl _,(zhg 2)⟩
  ·rw [show decide (Int.ofNat n < Int.ofNat (a + k)) = false from qa6 h]
   conv => whnf
   refine .inl ?_
   conv => whnf
   rw [he,show a + k - n = 0 by omega,qf3,List.append_nil,lV,if_neg hne]
   exact ⟨_,rfl,qi0 rfl⟩
theorem qh9 (m:Nat) (hm:m ≤ 9):∀ (a k:Nat),a + k ≤ 8 → Pure prog 68 [nv a,nv (a + k),nv m] (lV (lsts m a k)) :=by
 induction m with
 |zero => exact fun a k _ => qfn a k
 |succ m ih =>
  cases m with
  |zero => exact qqo
  |succ m => exact fun a k h => qnk m (ih (by omega)) a k h (by omega)
end
end Go.Abs.Seat
