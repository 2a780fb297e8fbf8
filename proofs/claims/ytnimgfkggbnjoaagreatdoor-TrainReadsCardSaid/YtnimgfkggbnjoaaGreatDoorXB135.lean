/-
  A text, as the program reads it.
-/
import Derived.Test.YtnimgfkggbnjoaaGreatDoorXU12
import Derived.Test.YtnimgfkggbnjoaaGreatDoorXB132
import Derived.Test.YtnimgfkggbnjoaaGreatDoorXU13
namespace Go.Abs.Seat
noncomputable section
open Go Go.Abs Go.Proofs.Tryz
set_option maxRecDepth 100000
set_option maxHeartbeats 40000000
attribute [local irreducible] pEq qco IntKind.wrap
structure PxH (L:List (List UInt8)) (p1 p2 p3 p4:List UInt8) (l1:List (List UInt8)) (a b c d:Nat) (N:AV):Prop where
 w0:Pure prog 86 [.str (gB L 0),.str [114,117,108,101]] (.lst (stA [p1,p2,p3,p4]) 4 .no)
 t0:Pure prog 89 [.lst (stA [p1,p2,p3]) 3 .no] (nl (zl [a,b,c]))
 s0:snI p4 = Int.ofNat d
 d3:d < 3
 w1:Pure prog 86 [.str (gB L 1),.str [110,101,118,101,114]] (.lst (stA l1) l1.length .no)
 t1:Pure prog 89 [.lst (stA l1) l1.length .no] N
def xqT (T:List (List (Nat × Nat))):AV :=if T = [] then .nils else .lst (xqs T) T.length .no
theorem ql2:∀ T:List (List (Nat × Nat)),wkl (xqs T) = xqs T
 | [] => by simp only [xqs,List.map_nil,wkl]
 |t :: r => by
  have ih :=ql2 r
  have e:wk (xqV t) = xqV t :=by
   rcases qh4 t with h | ⟨l,h⟩
   ·rw [h];rfl
   ·rw [h];simp only [wk,qnm]
  show wkl (xqV t :: xqs r) = xqV t :: xqs r
  simp only [wkl,e,ih]
theorem qed {r:TrR} {N v:AV} {V:List Nat} {T:List (List (Nat × Nat))} {c:Nat} (hN:IL N (zl V)) (hv:v = .nils ∧ T = [] ∨ v = .lst (xqs T) T.length (.ch c)) (o:okR r V T) (hw:ShW r V T):Pure prog 34 [.agg [nv r.1,nv r.2.1,nv r.2.2.1,nv r.2.2.2,N],v] (.str (prtT r V T)) :=by
 refine Pure.ofWk ?_
 have eN:wk N = N :=by
  rcases hN with ⟨rfl,_⟩ | rfl
  ·rfl
  ·simp only [wk,ql3]
 have k :=qi9 (X :=wk v) hN (by
  rcases hv with ⟨rfl,e⟩ | rfl
  ·exact .inl ⟨rfl,e⟩
  ·exact .inr (by simp only [wk,ql2])) o hw
 rw [show wkl [.agg [nv r.1,nv r.2.1,nv r.2.2.1,nv r.2.2.2,N],v] = [.agg [nv r.1,nv r.2.1,nv r.2.2.1,nv r.2.2.2,N],wk v] by simp only [wkl,wk,eN]]
 exact k
theorem qcs {t:List (Nat × Nat)} {k c:Nat} (h:t ≠ []) (hk:k = t.length):WkV (.lst (flat (zp t)) k (.ch c)) (xqV t) :=by
 subst hk
 unfold xqV
 rw [if_neg h]
 have e:t.length = (zp t).length :=(qew t).symm
 show WkV (.lst (flat (zp t)) t.length (.ch c)) (.lst (flat (zp t)) (zp t).length .no)
 rw [e]
 exact WkV.own _ _ _
theorem qo8 {A:List (List (Nat × Nat))} {t:List (Nat × Nat)} {v:AV} (h:WkV v (xqV t)) (k:Nat) (o:Own):WkV (.lst (xqs A ++ [v]) k o) (.lst (xqs (A ++ [t])) k o) :=by
 have e:xqs (A ++ [t]) = xqs A ++ [xqV t] :=by unfold xqs;rw [List.map_append];rfl
 rw [e]
 exact WkVs.lst (WkVs.app (WkVs.refl _) (show WkVs [v] [xqV t] from ⟨h,trivial⟩)) k o
def ptV (T:List (List (Nat × Nat))) (i:Nat):AV :=.lst (xqs (T.take i)) i (.ch 22)
def grT (T:List (List (Nat × Nat))) (i:Nat) (v:AV) (ux:List AObj):Prop :=i = 0 ∧ v = .nils ∧ ux = [] ∨ 0 < i ∧ v = ptV T i ∧ ux = [.chain i 1 45]
theorem qe3 (T:List (List (Nat × Nat))) (i:Nat) {n:Nat} (h:23 ≤ n):bd (ptV T i) ≤ n :=Nat.max_le.2 ⟨h,qc1 (qdt _)⟩
theorem qz3 {T:List (List (Nat × Nat))} {v:AV} {i:Nat} (hi:i < T.length) (h:WkV v (xqV (gT T i))):RnV 22 [22] (.lst (xqs (T.take i) ++ [v]) (i + (0 + 1)) (.ch 22)) (ptV T (i + 1)) :=by
 refine RnV.tr (qo8 h _ _) ?_
 unfold ptV
 rw [qg1 T hi]
 exact rnC (j :=0) (Nat.lt_succ_self 0) rfl rfl (qdt _)
theorem qy4 {T:List (List (Nat × Nat))} {v:AV} {c:Nat} (hi:0 < T.length) (h:WkV v (xqV (gT T 0))):RnV 22 [c] (.lst [v] (0 + 1) (.ch c)) (ptV T 1) :=by
 refine RnV.tr (qo8 (A :=[]) h _ _) ?_
 unfold ptV
 rw [qg1 T hi]
 exact rnC (j :=0) (Nat.lt_succ_self 0) rfl rfl (qdt _)
structure RwH (L:List (List UInt8)) (i:Nat) (t:List (Nat × Nat)):Prop where
 ex:∃ l,Pure prog 86 [.str (gB L (i + 2)),.str [116,114,97,105,110]] (.lst (stA l) l.length .no) ∧ Pure prog 89 [.lst (stA l) l.length .no] (nlV (flN t))
 le:t.length ≤ 450
 lt:∀ n,n ∈ flN t → n < 1000
theorem qcq (t:List (Nat × Nat)) {j:Nat} (h:j < t.length):gn (flN t) (2 * j) = (gq t j).1 ∧ gn (flN t) (2 * j + 1) = (gq t j).2 :=by
 induction t generalizing j with
 |nil => exact absurd h (Nat.not_lt_zero _)
 |cons p r ih =>
  cases j with
  |zero => exact ⟨rfl,rfl⟩
  |succ j =>
   have :=ih (j :=j) (Nat.lt_of_succ_lt_succ h)
   exact this
theorem qb6 (l:List (Nat × Nat)) (p:Nat × Nat):flat (zp (l ++ [p])) = flat (zp l) ++ [nv p.1,nv p.2] :=by
 induction l with
 |nil => rfl
 |cons x r ih => show iv _ :: iv _ :: flat (zp (r ++ [p])) = _;rw [ih];rfl
theorem qcb (t:List (Nat × Nat)) {i:Nat} (h:i ≤ t.length):qen (flat (zp (t.take i))) (i * 2) = true :=by
 have k :=qe1 (flat (zp (t.take i)))
 rwa [flat_len,qew,List.length_take,Nat.min_eq_left h] at k
theorem qcx (T:List (List (Nat × Nat))) {i:Nat} (h:i ≤ T.length):qen (xqs (T.take i)) (i * 1) = true :=by
 have k :=qe1 (xqs (T.take i))
 rw [qwq,List.length_take,Nat.min_eq_left h] at k
 rwa [Nat.mul_one]
theorem qr1 {L:List (List UInt8)} {a b c d:Nat} {V:List Nat} {T:List (List (Nat × Nat))} (h3:a < 1000 ∧ b < 1000 ∧ c < 1000) (hd:d < 3) (hV:∀ n,n ∈ V → n < 1000) (hT:∀ i,i < T.length → RwH L i (gT T i)):okR (a,b,c,d + 1) V T :=by
 refine ⟨⟨h3,Nat.succ_pos _,hd⟩,hV,fun t ht => ?_⟩
 obtain ⟨i,hi,e⟩ :=List.getElem_of_mem ht
 have k :=(hT i hi).lt
 rwa [show gT T i = t by rw [← e];simp [gT,List.getD,hi]] at k
theorem qvy {L:List (List UInt8)} {r:TrR} {V:List Nat} {T:List (List (Nat × Nat))} (hV:V.length ≤ 900) (hl:T.length ≤ 900) (hT:∀ i,i < T.length → RwH L i (gT T i)):ShW r V T :=by
 refine ⟨hV,hl,fun t ht => ?_⟩
 obtain ⟨i,hi,e⟩ :=List.getElem_of_mem ht
 have k :=(hT i hi).le
 rwa [show gT T i = t by rw [← e];simp [gT,List.getD,hi]] at k
theorem qvo (T:List (List (Nat × Nat))):Live noL (xqT T) :=by
 unfold xqT
 split
 ·trivial
 ·exact ⟨qdt T,fun _ e => nomatch e⟩
theorem qvt {x:AV} {T:List (List (Nat × Nat))} (h:T = []):Wk (.tup [x,.nils]) (.tup [x,xqT T]) :=by
 rw [xqT,if_pos h];exact Wk.refl _
theorem qwt {x y z:AV} (h:Wk y z):Wk (.tup [x,y]) (.tup [x,z]) :=fun g w u hu => by
 obtain ⟨vs,e,a,r1,e2,h1,b,r2,e3,h2,h3⟩ :=hu
 exact ⟨vs,e,a,r1,e2,h1,b,r2,e3,h g w b h2,h3⟩
theorem qvs {x:AV} {T:List (List (Nat × Nat))} {i:Nat} (hi:0 < i) (h:T.length = i):Wk (.tup [x,ptV T i]) (.tup [x,xqT T]) :=by
 subst h
 have e:T ≠ [] :=fun z => by rw [z] at hi;exact absurd hi (Nat.lt_irrefl _)
 rw [xqT,if_neg e]
 unfold ptV
 rw [List.take_length]
 exact qwt (WkV.own _ _ _).wk
theorem qpn {s:List UInt8} {p1 p2 p3 p4:List UInt8} {l1:List (List UInt8)} {a b c d n:Nat} {N:AV} {V:List Nat} {T:List (List (Nat × Nat))} (hs:s.length ≤ 400) (h4:n + 4 = (spl 10 s).length) (h:PxH (spl 10 s) p1 p2 p3 p4 l1 a b c d N) (hN:IL N (zl V)) (h3:a < 1000 ∧ b < 1000 ∧ c < 1000) (hV:∀ n,n ∈ V → n < 1000) (hVl:V.length ≤ 900) (hTn:T.length = n) (hT:∀ i,i < T.length → RwH (spl 10 s) i (gT T i)) (he:prtT (a,b,c,d + 1) V T = s):Pure prog 39 [.str s] (.tup [.agg [nv a,nv b,nv c,nv (d + 1),N],xqT T]) :=by
 have pS :=qcu s 10 (by omega)
 have lS :=qbs (spl 10 s)
 have hl :=qc7 10 s
 obtain ⟨L,hL⟩ : ∃ L,L = spl 10 s :=⟨_,rfl⟩
 rw [← hL] at h h4 hT pS lS hl
 have ir0:inR 0 L.length = true :=qbf (i :=0) (by omega)
 have ir1:inR 1 L.length = true :=qbf (i :=1) (by omega)
 have n0:nth (stA L) (0:Int).toNat = some (.str (gB L 0)) :=qb2 (l :=L) (i :=0) (by omega)
 have n1:nth (stA L) (1:Int).toNat = some (.str (gB L 1)) :=qb2 (l :=L) (i :=1) (by omega)
 have g4:decide ((L.length:Int) ≥ 4) = true :=decide_eq_true (by omega)
 have h44:(((4:Nat):Int) == 4) = true :=rfl
 have pX :=qgu (W0 :=.cells (.node (iv 0) (.node (iv 0) (.node (iv 0) .nil .nil) .nil) (.node (iv 0) (.node .nils .nil .nil) .nil)) 5 25) (by repeat' (first|exact trivial|exact Nat.zero_le _|apply And.intro)) p4
 rw [h.s0] at pX
 have gS:decide (Int.ofNat d ≥ 0) = true :=decide_eq_true (Int.natCast_nonneg _)
 have w0 :=h.w0
 have t0 :=h.t0
 have w1 :=h.w1
 have t1 :=h.t1
 have w5:IntKind.i64.wrap (1 + Int.ofNat d) = Int.ofNat (d + 1) :=by rw [Int.add_comm];exact qbr (m :=d + 1) (by have :=h.d3;omega)
 have w2:IntKind.i64.wrap ((L.length:Int) - 2) = Int.ofNat (2 + n) :=by rw [← h4];exact (qfs (by omega) (by omega)).trans (by simp only [Int.ofNat_eq_natCast];omega)
 have lX :=qbs [p1,p2,p3,p4]
 have lL1 :=qbs l1
 have lN :=hN.no
 have hNI :=hN
 have lN2 :=qby (zl V)
 have oR :=qr1 h3 h.d3 hV hT
 have sW :=qvy (r :=(a,b,c,d + 1)) hVl (show T.length ≤ 900 by omega) hT
 have te:(prtT (a,b,c,d + 1) V T == s) = true :=beq_iff_eq.2 he
 have lQT :=qvo T
 rcases hN with ⟨rfl,_⟩ | rfl
 ·refine qbg hE rfl (by repeat' first|exact trivial|assumption|exact qa3 _|exact fun _ h => nomatch h|apply And.intro) (by repeat' first|exact trivial|assumption|exact qa3 _|exact fun _ h => nomatch h|apply And.intro) fun S q pc hS hq hC hE => ?_
  conv => whnf
  repeat ((first|refine qa2 (nthP n0) ?_|refine qa5 ir0 ?_|refine qa4 ir0 ?_|refine pkT ir0 ?_|refine qax ir0 ?_|refine qav hC (pS) ?_|refine qav hC (qbn g4 s) ?_|refine qav hC (w0) ?_|refine qav hC (qbn h44 s) ?_|refine qav hC (qcr) ?_|refine qaq hS (by kernel_rfl) ?_);conv => whnf)
  refine qa2 (p' :=.ret (.slc 1 0 3 3)) (by kernel_rfl) ?_
  conv => whnf
  repeat ((first|refine qaq hS (by kernel_rfl) ?_);conv => whnf)
  refine qc0 hC (HFun.pureR pX (ob2S ⟨rfl,rfl,trivial⟩)) ?_
  conv => whnf
  repeat ((first|refine qav hC (qbn gS s) ?_|refine qaq hS (by kernel_rfl) ?_);conv => whnf)
  refine qa2 (p' :=.chk true (.ret (.lst (stA [p1,p2,p3]) 3 .no))) (by kernel_rfl) ?_
  conv => whnf
  repeat ((first|refine qa2 (nthP n1) ?_|refine qa2 (qiy (e :=9) (inf :=t9) (L :=L) (a :=2) (n :=n) (by kernel_rfl) (by kernel_rfl) (by kernel_rfl) rfl w2 (by omega)) ?_|refine qa5 ir1 ?_|refine qa4 ir1 ?_|refine pkT ir1 ?_|refine qax ir1 ?_|refine qav hC (t0) ?_|refine qav hC (w1) ?_|refine qav hC (t1) ?_|refine qaq hS (by kernel_rfl) ?_);conv => whnf)
  have lU :=qbs ((L.drop 2).take n)
  have eO:AObj.cells (.node (nv a) (.node (nv b) (.node (iv (IntKind.i64.wrap (1 + Int.ofNat d))) .nil .nil) .nil) (.node (nv c) (.node (.nils) .nil .nil) .nil)) 5 25 = .cells (.node (nv a) (.node (nv b) (.node (nv (d + 1)) .nil .nil) .nil) (.node (nv c) (.node (.nils) .nil .nil) .nil)) 5 25 :=by rw [w5]
  have oO:OWk (.cells (.node (nv a) (.node (nv b) (.node (iv (IntKind.i64.wrap (1 + Int.ofNat d))) .nil .nil) .nil) (.node (nv c) (.node (.nils) .nil .nil) .nil)) 5 25) (.cells (.node (nv a) (.node (nv b) (.node (nv (d + 1)) .nil .nil) .nil) (.node (nv c) (.node (.nils) .nil .nil) .nil)) 5 25) :=eO ▸ OWk.same _
  refine qcp hE hS (A :=Nat × AV × List AObj) [] (fun x hx => nomatch hx) [0,2,9,67,68] (fun (i,v,_) => [(10,v),(69,nv i)]) (fun _ => [(20,.cells (.node (nv a) (.node (nv b) (.node (nv (d + 1)) .nil .nil) .nil) (.node (nv c) (.node (.nils) .nil .nil) .nil)) 5 25)]) (fun a => a.2.2) (fun (i,v,ux) => i ≤ T.length ∧ grT T i v ux) (fun (i,_,_) => T.length - i) (0,.nils,[]) (kle rfl) trivial rfl (by repeat' (first|exact trivial|exact Nat.zero_le _|exact qe3 _ _ (by decide)|exact qc4 (qa3 _) (by decide)|exact kle rfl|exact bdq|exact mxI rfl|exact mxS rfl|apply And.intro)) zhr ⟨Nat.zero_le _,.inl ⟨rfl,rfl,rfl⟩⟩ ?_
  rintro ⟨i,v,ux⟩ ⟨hi,hv⟩ K hK
  have hi:i ≤ T.length :=hi
  refine Or.elim hv (fun hv => ?_) fun hv => ?_
  ·obtain ⟨rfl,rfl,rfl⟩ :=hv
   obtain rfl:K = 22 :=hK
   conv => whnf
   by_cases hi2:0 < T.length
   ·have hir:0 < n :=by omega
    have hi1:IntKind.i64.wrap (Int.ofNat 0 + 1) = Int.ofNat (0 + 1) :=qbr (m :=0 + 1) (by omega)
    have gI :=qck L (a :=2) (n :=n) (i :=0) (by omega) hir
    have hr :=hT 0 hi2
    refine Exists.elim hr.ex fun l hl2 => ?_
    have pw :=hl2.1
    have pt :=hl2.2
    have hle :=hr.le
    obtain ⟨t,et⟩ : ∃ t,t = gT T 0 :=⟨_,rfl⟩
    rw [← et] at pt hle
    have lL2 :=qbs l
    refine Or.elim (Classical.em (t = [])) (fun ht0 => ?_) fun ht0 => ?_
    ·have eU:nlV (flN t) = .nils :=by rw [ht0];rfl
     rw [eU] at pt
     have hq:WkV .nils (xqV (gT T 0)) :=by rw [← et,ht0];exact WkV.refl _
     have z2:((Int.tmod 0 2) == 0) = true :=rfl
     try have z106:=qbk hir
     try have z107:=qbf hir
     repeat ((first|refine qa2 (nthP gI) ?_|refine qa5 ‹_› ?_|refine qa4 ‹_› ?_|refine pkT ‹_› ?_|refine qax ‹_› ?_|refine qa9 ‹_› ?_|refine qbc ‹_› ?_|refine pkF ‹_› ?_|refine qar ‹_› ?_|refine qav hC (pw) ?_|refine qav hC (pt) ?_|refine qav hC (qbn z2 (gB L (0 + 2))) ?_|refine qaq hS (by kernel_rfl) ?_);conv => whnf)
     refine qa6 hE hS ?_
     conv => whnf
     repeat ((first|refine qaq hS (by kernel_rfl) ?_);conv => whnf)
     exact ⟨(1,ptV T 1,[.chain 1 1 45]),[22],⟨hi2,.inr ⟨Nat.zero_lt_one,rfl,rfl⟩⟩,by show T.length - 1 < T.length - 0;omega,zhr⟩
    ·have eU:nlV (flN t) = nl (zl (flN t)) :=if_neg fun z => ht0 (by rw [← qci t,z];rfl)
     rw [eU] at pt
     have lM :=qby (zl (flN t))
     have hM:(zl (flN t)).length = 2 * t.length :=by rw [qcd,qbi]
     have ht1:0 < t.length :=List.length_pos_iff.2 ht0
     have z2:(Int.tmod ((zl (flN t)).length:Int) 2 == 0) = true :=by rw [hM];exact beq_iff_eq.2 (by rw [show ((2 * t.length:Nat):Int) = Int.ofNat (2 * t.length) from rfl,show (2:Int) = Int.ofNat 2 from rfl,qei,Nat.mul_mod_right];rfl)
     have hg :=fun j (hj:j < t.length) => qcq t hj
     have gA:∀ j,j < t.length → nth (ivs (zl (flN t))) (2 * j * 1) = some (nv (gq t j).1) :=fun j hj => (qbq (l :=zl (flN t)) (i :=2 * j) (by omega)).trans (by rw [qcf (flN t) (by rw [qbi];omega),(hg j hj).1])
     have gB2:∀ j,j < t.length → nth (ivs (zl (flN t))) ((2 * j + 1) * 1) = some (nv (gq t j).2) :=fun j hj => (qbq (l :=zl (flN t)) (i :=2 * j + 1) (by omega)).trans (by rw [qcf (flN t) (by rw [qbi];omega),(hg j hj).2])
     have q0:2 * 0 < (zl (flN t)).length :=by omega
     have q1:2 * 0 + 1 < (zl (flN t)).length :=by omega
     have f1:AV.lst [nv (gq t 0).1,nv (gq t 0).2] (0 + 1) (.ch 34) = .lst (flat (zp (t.take 1))) 1 (.ch 34) :=by rw [qbx t ht1];rfl
     try have z108:=qbk hir
     try have z109:=qbf hir
     repeat ((first|refine qa2 (nthP gI) ?_|refine qa5 ‹_› ?_|refine qa4 ‹_› ?_|refine pkT ‹_› ?_|refine qax ‹_› ?_|refine qa9 ‹_› ?_|refine qbc ‹_› ?_|refine pkF ‹_› ?_|refine qar ‹_› ?_|refine qav hC (pw) ?_|refine qav hC (pt) ?_|refine qav hC (qbn z2 (gB L (0 + 2))) ?_|refine qaq hS (by kernel_rfl) ?_);conv => whnf)
     have w01:IntKind.i64.wrap (0 + 1) = Int.ofNat (2 * 0 + 1) :=by kernel_rfl
     have iq0:inR (IntKind.i64.wrap (0 + 1)) (zl (flN t)).length = true :=by rw [w01];exact qbf q1
     have gq0:nth (ivs (zl (flN t))) ((IntKind.i64.wrap (0 + 1)).toNat * 1) = some (nv (gq t 0).2) :=by rw [w01];exact gB2 0 ht1
     refine qa6 hE hS ?_
     conv => whnf
     try have z110:=qbk q0
     try have z111:=qbf q0
     repeat ((first|refine qa2 (nthP (gA 0 ht1)) ?_|refine qa2 (nthP gq0) ?_|refine qa5 ‹_› ?_|refine qa4 ‹_› ?_|refine pkT ‹_› ?_|refine qax ‹_› ?_|refine qa9 ‹_› ?_|refine qbc ‹_› ?_|refine pkF ‹_› ?_|refine qar ‹_› ?_|refine qaq hS (by kernel_rfl) ?_);conv => whnf)
     refine qbh hE hS (A :=Nat) [0,2,9,10,13,67,68,69] (fun j => [(14,.lst (flat (zp (t.take j))) j (.ch 34)),(15,nv (2 * j))]) (fun j => [(34,.chain j 2 74)]) (fun _ => []) (fun j => 1 ≤ j ∧ j ≤ t.length) (fun j => t.length - j) 1 (kle rfl) rfl (zhg 36) ⟨Nat.le_refl _,ht1⟩ ?_
     intro j ⟨hj,hjN⟩ K hK
     obtain rfl:K = 36 :=hK
     conv => whnf
     by_cases hj2:j < t.length
     ·have q0:2 * j < (zl (flN t)).length :=by omega
      have q1:2 * j + 1 < (zl (flN t)).length :=by omega
      have w1:IntKind.i64.wrap (Int.ofNat (2 * j) + 1) = Int.ofNat (2 * j + 1) :=qbr (m :=2 * j + 1) (by omega)
      have w22:IntKind.i64.wrap (Int.ofNat (2 * j) + 2) = Int.ofNat (2 * (j + 1)) :=qbr (m :=2 * (j + 1)) (by omega)
      have x1:decide ((j + (0 + 1)) * 16 ≤ 140737488355328) = true :=decide_eq_true (by omega)
      have x2:decide (j + (0 + 1) ≤ 9223372036854775807) = true :=decide_eq_true (by omega)
      have x4:decide (j = j) = true :=decide_eq_true rfl
      have x5 :=qcb t hjN
      have f2:AV.lst (flat (zp (t.take j)) ++ [nv (gq t j).1,nv (gq t j).2]) (j + (0 + 1)) (.ch 34) = .lst (flat (zp (t.take (j + 1)))) (j + 1) (.ch 34) :=by rw [qbx t hj2,qb6]
      have iq:inR (IntKind.i64.wrap (Int.ofNat (2 * j) + 1)) (zl (flN t)).length = true :=by rw [w1];exact qbf q1
      have gq1:nth (ivs (zl (flN t))) ((IntKind.i64.wrap (Int.ofNat (2 * j) + 1)).toNat * 1) = some (nv (gq t j).2) :=by rw [w1];exact gB2 j hj2
      try have z112:=qbk q0
      try have z113:=qbf q0
      repeat ((first|refine qa2 (nthP (gA j hj2)) ?_|refine qa2 (nthP gq1) ?_|refine qa5 ‹_› ?_|refine qa4 ‹_› ?_|refine pkT ‹_› ?_|refine qax ‹_› ?_|refine qa9 ‹_› ?_|refine qbc ‹_› ?_|refine pkF ‹_› ?_|refine qar ‹_› ?_|refine qaq hS (by kernel_rfl) ?_);conv => whnf)
      exact ⟨j + 1,⟨by omega,hj2⟩,by omega,kle rfl,(zhg 36)⟩
     ·have hjE:j = t.length :=by omega
      refine qar (qb9 (show ¬ 2 * j < (zl (flN t)).length by omega)) ?_
      conv => whnf
      refine .inl ?_
      conv => whnf
      have hq:WkV (.lst (flat (zp (t.take j))) j (.ch 34)) (xqV (gT T 0)) :=by rw [← et,hjE,List.take_length];exact qcs ht0 rfl
      repeat ((first|refine qaq hS (by kernel_rfl) ?_);conv => whnf)
      exact ⟨(1,ptV T 1,[.chain 1 1 45]),[36],⟨hi2,.inr ⟨Nat.zero_lt_one,rfl,rfl⟩⟩,by show T.length - 1 < T.length - 0;omega,zhr⟩
   ·have hiE:T.length = 0 :=by omega
    have pT :=qed (r :=(a,b,c,d + 1)) (c :=22) hNI (.inl ⟨rfl,List.eq_nil_of_length_eq_zero hiE⟩) oR sW
    refine qar (qb9 (show ¬ 0 < n by omega)) ?_
    conv => whnf
    repeat ((first|refine qav hC (pT) ?_|refine qav hC (qbn te s) ?_|refine qaq hS (by kernel_rfl) ?_);conv => whnf)
    exact ⟨_,rfl,qvt (List.eq_nil_of_length_eq_zero hiE)⟩
  ·obtain ⟨hj9,rfl,rfl⟩ :=hv
   obtain rfl:K = 23 :=hK
   conv => whnf
   by_cases hi2:i < T.length
   ·have hir:i < n :=by omega
    have hi1:IntKind.i64.wrap (Int.ofNat i + 1) = Int.ofNat (i + 1) :=qbr (m :=i + 1) (by omega)
    have d1:decide ((i + (0 + 1)) * 24 ≤ 140737488355328) = true :=decide_eq_true (by omega)
    have d2:decide (i + (0 + 1) ≤ 9223372036854775807) = true :=decide_eq_true (by omega)
    have d4:decide (i = i) = true :=decide_eq_true rfl
    have d5 :=qcx T hi
    have gI :=qck L (a :=2) (n :=n) (i :=i) (by omega) hir
    have hr :=hT i hi2
    refine Exists.elim hr.ex fun l hl2 => ?_
    have pw :=hl2.1
    have pt :=hl2.2
    have hle :=hr.le
    obtain ⟨t,et⟩ : ∃ t,t = gT T i :=⟨_,rfl⟩
    rw [← et] at pt hle
    have lL2 :=qbs l
    refine Or.elim (Classical.em (t = [])) (fun ht0 => ?_) fun ht0 => ?_
    ·have eU:nlV (flN t) = .nils :=by rw [ht0];rfl
     rw [eU] at pt
     have hq:WkV .nils (xqV (gT T i)) :=by rw [← et,ht0];exact WkV.refl _
     have z2:((Int.tmod 0 2) == 0) = true :=rfl
     try have z114:=qbk hir
     try have z115:=qbf hir
     repeat ((first|refine qa2 (nthP gI) ?_|refine qa5 ‹_› ?_|refine qa4 ‹_› ?_|refine pkT ‹_› ?_|refine qax ‹_› ?_|refine qa9 ‹_› ?_|refine qbc ‹_› ?_|refine pkF ‹_› ?_|refine qar ‹_› ?_|refine qav hC (pw) ?_|refine qav hC (pt) ?_|refine qav hC (qbn z2 (gB L (i + 2))) ?_|refine qaq hS (by kernel_rfl) ?_);conv => whnf)
     refine qa6 hE hS ?_
     conv => whnf
     repeat ((first|refine qa5 ‹_› ?_|refine qa4 ‹_› ?_|refine pkT ‹_› ?_|refine qax ‹_› ?_|refine qa9 ‹_› ?_|refine qbc ‹_› ?_|refine pkF ‹_› ?_|refine qar ‹_› ?_|refine qaq hS (by kernel_rfl) ?_);conv => whnf)
     exact ⟨(i + 1,ptV T (i + 1),[.chain (i + 1) 1 45]),[22],⟨hi2,.inr ⟨Nat.succ_pos _,rfl,rfl⟩⟩,by show T.length - (i + 1) < T.length - i;omega,zhr⟩
    ·have eU:nlV (flN t) = nl (zl (flN t)) :=if_neg fun z => ht0 (by rw [← qci t,z];rfl)
     rw [eU] at pt
     have lM :=qby (zl (flN t))
     have hM:(zl (flN t)).length = 2 * t.length :=by rw [qcd,qbi]
     have ht1:0 < t.length :=List.length_pos_iff.2 ht0
     have z2:(Int.tmod ((zl (flN t)).length:Int) 2 == 0) = true :=by rw [hM];exact beq_iff_eq.2 (by rw [show ((2 * t.length:Nat):Int) = Int.ofNat (2 * t.length) from rfl,show (2:Int) = Int.ofNat 2 from rfl,qei,Nat.mul_mod_right];rfl)
     have hg :=fun j (hj:j < t.length) => qcq t hj
     have gA:∀ j,j < t.length → nth (ivs (zl (flN t))) (2 * j * 1) = some (nv (gq t j).1) :=fun j hj => (qbq (l :=zl (flN t)) (i :=2 * j) (by omega)).trans (by rw [qcf (flN t) (by rw [qbi];omega),(hg j hj).1])
     have gB2:∀ j,j < t.length → nth (ivs (zl (flN t))) ((2 * j + 1) * 1) = some (nv (gq t j).2) :=fun j hj => (qbq (l :=zl (flN t)) (i :=2 * j + 1) (by omega)).trans (by rw [qcf (flN t) (by rw [qbi];omega),(hg j hj).2])
     have q0:2 * 0 < (zl (flN t)).length :=by omega
     have q1:2 * 0 + 1 < (zl (flN t)).length :=by omega
     have f1:AV.lst [nv (gq t 0).1,nv (gq t 0).2] (0 + 1) (.ch 35) = .lst (flat (zp (t.take 1))) 1 (.ch 35) :=by rw [qbx t ht1];rfl
     try have z116:=qbk hir
     try have z117:=qbf hir
     repeat ((first|refine qa2 (nthP gI) ?_|refine qa5 ‹_› ?_|refine qa4 ‹_› ?_|refine pkT ‹_› ?_|refine qax ‹_› ?_|refine qa9 ‹_› ?_|refine qbc ‹_› ?_|refine pkF ‹_› ?_|refine qar ‹_› ?_|refine qav hC (pw) ?_|refine qav hC (pt) ?_|refine qav hC (qbn z2 (gB L (i + 2))) ?_|refine qaq hS (by kernel_rfl) ?_);conv => whnf)
     have w01:IntKind.i64.wrap (0 + 1) = Int.ofNat (2 * 0 + 1) :=by kernel_rfl
     have iq0:inR (IntKind.i64.wrap (0 + 1)) (zl (flN t)).length = true :=by rw [w01];exact qbf q1
     have gq0:nth (ivs (zl (flN t))) ((IntKind.i64.wrap (0 + 1)).toNat * 1) = some (nv (gq t 0).2) :=by rw [w01];exact gB2 0 ht1
     refine qa6 hE hS ?_
     conv => whnf
     try have z118:=qbk q0
     try have z119:=qbf q0
     repeat ((first|refine qa2 (nthP (gA 0 ht1)) ?_|refine qa2 (nthP gq0) ?_|refine qa5 ‹_› ?_|refine qa4 ‹_› ?_|refine pkT ‹_› ?_|refine qax ‹_› ?_|refine qa9 ‹_› ?_|refine qbc ‹_› ?_|refine pkF ‹_› ?_|refine qar ‹_› ?_|refine qaq hS (by kernel_rfl) ?_);conv => whnf)
     refine qbh hE hS (A :=Nat) [0,2,9,10,13,67,68,69] (fun j => [(14,.lst (flat (zp (t.take j))) j (.ch 35)),(15,nv (2 * j))]) (fun j => [(35,.chain j 2 74)]) (fun _ => []) (fun j => 1 ≤ j ∧ j ≤ t.length) (fun j => t.length - j) 1 (kle rfl) rfl (zhg 37) ⟨Nat.le_refl _,ht1⟩ ?_
     intro j ⟨hj,hjN⟩ K hK
     obtain rfl:K = 37 :=hK
     conv => whnf
     by_cases hj2:j < t.length
     ·have q0:2 * j < (zl (flN t)).length :=by omega
      have q1:2 * j + 1 < (zl (flN t)).length :=by omega
      have w1:IntKind.i64.wrap (Int.ofNat (2 * j) + 1) = Int.ofNat (2 * j + 1) :=qbr (m :=2 * j + 1) (by omega)
      have w22:IntKind.i64.wrap (Int.ofNat (2 * j) + 2) = Int.ofNat (2 * (j + 1)) :=qbr (m :=2 * (j + 1)) (by omega)
      have x1:decide ((j + (0 + 1)) * 16 ≤ 140737488355328) = true :=decide_eq_true (by omega)
      have x2:decide (j + (0 + 1) ≤ 9223372036854775807) = true :=decide_eq_true (by omega)
      have x4:decide (j = j) = true :=decide_eq_true rfl
      have x5 :=qcb t hjN
      have f2:AV.lst (flat (zp (t.take j)) ++ [nv (gq t j).1,nv (gq t j).2]) (j + (0 + 1)) (.ch 35) = .lst (flat (zp (t.take (j + 1)))) (j + 1) (.ch 35) :=by rw [qbx t hj2,qb6]
      have iq:inR (IntKind.i64.wrap (Int.ofNat (2 * j) + 1)) (zl (flN t)).length = true :=by rw [w1];exact qbf q1
      have gq1:nth (ivs (zl (flN t))) ((IntKind.i64.wrap (Int.ofNat (2 * j) + 1)).toNat * 1) = some (nv (gq t j).2) :=by rw [w1];exact gB2 j hj2
      try have z120:=qbk q0
      try have z121:=qbf q0
      repeat ((first|refine qa2 (nthP (gA j hj2)) ?_|refine qa2 (nthP gq1) ?_|refine qa5 ‹_› ?_|refine qa4 ‹_› ?_|refine pkT ‹_› ?_|refine qax ‹_› ?_|refine qa9 ‹_› ?_|refine qbc ‹_› ?_|refine pkF ‹_› ?_|refine qar ‹_› ?_|refine qaq hS (by kernel_rfl) ?_);conv => whnf)
      exact ⟨j + 1,⟨by omega,hj2⟩,by omega,kle rfl,(zhg 37)⟩
     ·have hjE:j = t.length :=by omega
      refine qar (qb9 (show ¬ 2 * j < (zl (flN t)).length by omega)) ?_
      conv => whnf
      refine .inl ?_
      conv => whnf
      have hq:WkV (.lst (flat (zp (t.take j))) j (.ch 35)) (xqV (gT T i)) :=by rw [← et,hjE,List.take_length];exact qcs ht0 rfl
      repeat ((first|refine qa5 ‹_› ?_|refine qa4 ‹_› ?_|refine pkT ‹_› ?_|refine qax ‹_› ?_|refine qa9 ‹_› ?_|refine qbc ‹_› ?_|refine pkF ‹_› ?_|refine qar ‹_› ?_|refine qaq hS (by kernel_rfl) ?_);conv => whnf)
      exact ⟨(i + 1,ptV T (i + 1),[.chain (i + 1) 1 45]),[22],⟨hi2,.inr ⟨Nat.succ_pos _,rfl,rfl⟩⟩,by show T.length - (i + 1) < T.length - i;omega,zhr⟩
   ·have hiE:T.length = i :=by omega
    have eT:ptV T i = .lst (xqs T) T.length (.ch 22) :=by unfold ptV;rw [← hiE,List.take_length]
    have pT :=qed (r :=(a,b,c,d + 1)) (c :=22) hNI (.inr eT) oR sW
    refine qar (qb9 (show ¬ i < n by omega)) ?_
    conv => whnf
    repeat ((first|refine qav hC (pT) ?_|refine qav hC (qbn te s) ?_|refine qaq hS (by kernel_rfl) ?_);conv => whnf)
    exact ⟨_,rfl,qvs hj9 hiE⟩
 ·refine qbg hE rfl (by repeat' first|exact trivial|assumption|exact qa3 _|exact fun _ h => nomatch h|apply And.intro) (by repeat' first|exact trivial|assumption|exact qa3 _|exact fun _ h => nomatch h|apply And.intro) fun S q pc hS hq hC hE => ?_
  conv => whnf
  repeat ((first|refine qa2 (nthP n0) ?_|refine qa5 ir0 ?_|refine qa4 ir0 ?_|refine pkT ir0 ?_|refine qax ir0 ?_|refine qav hC (pS) ?_|refine qav hC (qbn g4 s) ?_|refine qav hC (w0) ?_|refine qav hC (qbn h44 s) ?_|refine qav hC (qcr) ?_|refine qaq hS (by kernel_rfl) ?_);conv => whnf)
  refine qa2 (p' :=.ret (.slc 1 0 3 3)) (by kernel_rfl) ?_
  conv => whnf
  repeat ((first|refine qaq hS (by kernel_rfl) ?_);conv => whnf)
  refine qc0 hC (HFun.pureR pX (ob2S ⟨rfl,rfl,trivial⟩)) ?_
  conv => whnf
  repeat ((first|refine qav hC (qbn gS s) ?_|refine qaq hS (by kernel_rfl) ?_);conv => whnf)
  refine qa2 (p' :=.chk true (.ret (.lst (stA [p1,p2,p3]) 3 .no))) (by kernel_rfl) ?_
  conv => whnf
  repeat ((first|refine qa2 (nthP n1) ?_|refine qa2 (qiy (e :=9) (inf :=t9) (L :=L) (a :=2) (n :=n) (by kernel_rfl) (by kernel_rfl) (by kernel_rfl) rfl w2 (by omega)) ?_|refine qa5 ir1 ?_|refine qa4 ir1 ?_|refine pkT ir1 ?_|refine qax ir1 ?_|refine qav hC (t0) ?_|refine qav hC (w1) ?_|refine qav hC (t1) ?_|refine qaq hS (by kernel_rfl) ?_);conv => whnf)
  have lU :=qbs ((L.drop 2).take n)
  have eO:AObj.cells (.node (nv a) (.node (nv b) (.node (iv (IntKind.i64.wrap (1 + Int.ofNat d))) .nil .nil) .nil) (.node (nv c) (.node (nl (zl V)) .nil .nil) .nil)) 5 25 = .cells (.node (nv a) (.node (nv b) (.node (nv (d + 1)) .nil .nil) .nil) (.node (nv c) (.node (nl (zl V)) .nil .nil) .nil)) 5 25 :=by rw [w5]
  have oO:OWk (.cells (.node (nv a) (.node (nv b) (.node (iv (IntKind.i64.wrap (1 + Int.ofNat d))) .nil .nil) .nil) (.node (nv c) (.node (nl (zl V)) .nil .nil) .nil)) 5 25) (.cells (.node (nv a) (.node (nv b) (.node (nv (d + 1)) .nil .nil) .nil) (.node (nv c) (.node (nl (zl V)) .nil .nil) .nil)) 5 25) :=eO ▸ OWk.same _
  refine qcp hE hS (A :=Nat × AV × List AObj) [] (fun x hx => nomatch hx) [0,2,9,67,68] (fun (i,v,_) => [(10,v),(69,nv i)]) (fun _ => [(20,.cells (.node (nv a) (.node (nv b) (.node (nv (d + 1)) .nil .nil) .nil) (.node (nv c) (.node (nl (zl V)) .nil .nil) .nil)) 5 25)]) (fun a => a.2.2) (fun (i,v,ux) => i ≤ T.length ∧ grT T i v ux) (fun (i,_,_) => T.length - i) (0,.nils,[]) (kle rfl) trivial rfl (by repeat' (first|exact trivial|exact Nat.zero_le _|exact qe3 _ _ (by decide)|exact qc4 (qa3 _) (by decide)|exact kle rfl|exact bdq|exact mxI rfl|exact mxS rfl|apply And.intro)) zhr ⟨Nat.zero_le _,.inl ⟨rfl,rfl,rfl⟩⟩ ?_
  rintro ⟨i,v,ux⟩ ⟨hi,hv⟩ K hK
  have hi:i ≤ T.length :=hi
  refine Or.elim hv (fun hv => ?_) fun hv => ?_
  ·obtain ⟨rfl,rfl,rfl⟩ :=hv
   obtain rfl:K = 22 :=hK
   conv => whnf
   by_cases hi2:0 < T.length
   ·have hir:0 < n :=by omega
    have hi1:IntKind.i64.wrap (Int.ofNat 0 + 1) = Int.ofNat (0 + 1) :=qbr (m :=0 + 1) (by omega)
    have gI :=qck L (a :=2) (n :=n) (i :=0) (by omega) hir
    have hr :=hT 0 hi2
    refine Exists.elim hr.ex fun l hl2 => ?_
    have pw :=hl2.1
    have pt :=hl2.2
    have hle :=hr.le
    obtain ⟨t,et⟩ : ∃ t,t = gT T 0 :=⟨_,rfl⟩
    rw [← et] at pt hle
    have lL2 :=qbs l
    refine Or.elim (Classical.em (t = [])) (fun ht0 => ?_) fun ht0 => ?_
    ·have eU:nlV (flN t) = .nils :=by rw [ht0];rfl
     rw [eU] at pt
     have hq:WkV .nils (xqV (gT T 0)) :=by rw [← et,ht0];exact WkV.refl _
     have z2:((Int.tmod 0 2) == 0) = true :=rfl
     try have z122:=qbk hir
     try have z123:=qbf hir
     repeat ((first|refine qa2 (nthP gI) ?_|refine qa5 ‹_› ?_|refine qa4 ‹_› ?_|refine pkT ‹_› ?_|refine qax ‹_› ?_|refine qa9 ‹_› ?_|refine qbc ‹_› ?_|refine pkF ‹_› ?_|refine qar ‹_› ?_|refine qav hC (pw) ?_|refine qav hC (pt) ?_|refine qav hC (qbn z2 (gB L (0 + 2))) ?_|refine qaq hS (by kernel_rfl) ?_);conv => whnf)
     refine qa6 hE hS ?_
     conv => whnf
     repeat ((first|refine qaq hS (by kernel_rfl) ?_);conv => whnf)
     exact ⟨(1,ptV T 1,[.chain 1 1 45]),[22],⟨hi2,.inr ⟨Nat.zero_lt_one,rfl,rfl⟩⟩,by show T.length - 1 < T.length - 0;omega,zhr⟩
    ·have eU:nlV (flN t) = nl (zl (flN t)) :=if_neg fun z => ht0 (by rw [← qci t,z];rfl)
     rw [eU] at pt
     have lM :=qby (zl (flN t))
     have hM:(zl (flN t)).length = 2 * t.length :=by rw [qcd,qbi]
     have ht1:0 < t.length :=List.length_pos_iff.2 ht0
     have z2:(Int.tmod ((zl (flN t)).length:Int) 2 == 0) = true :=by rw [hM];exact beq_iff_eq.2 (by rw [show ((2 * t.length:Nat):Int) = Int.ofNat (2 * t.length) from rfl,show (2:Int) = Int.ofNat 2 from rfl,qei,Nat.mul_mod_right];rfl)
     have hg :=fun j (hj:j < t.length) => qcq t hj
     have gA:∀ j,j < t.length → nth (ivs (zl (flN t))) (2 * j * 1) = some (nv (gq t j).1) :=fun j hj => (qbq (l :=zl (flN t)) (i :=2 * j) (by omega)).trans (by rw [qcf (flN t) (by rw [qbi];omega),(hg j hj).1])
     have gB2:∀ j,j < t.length → nth (ivs (zl (flN t))) ((2 * j + 1) * 1) = some (nv (gq t j).2) :=fun j hj => (qbq (l :=zl (flN t)) (i :=2 * j + 1) (by omega)).trans (by rw [qcf (flN t) (by rw [qbi];omega),(hg j hj).2])
     have q0:2 * 0 < (zl (flN t)).length :=by omega
     have q1:2 * 0 + 1 < (zl (flN t)).length :=by omega
     have f1:AV.lst [nv (gq t 0).1,nv (gq t 0).2] (0 + 1) (.ch 34) = .lst (flat (zp (t.take 1))) 1 (.ch 34) :=by rw [qbx t ht1];rfl
     try have z124:=qbk hir
     try have z125:=qbf hir
     repeat ((first|refine qa2 (nthP gI) ?_|refine qa5 ‹_› ?_|refine qa4 ‹_› ?_|refine pkT ‹_› ?_|refine qax ‹_› ?_|refine qa9 ‹_› ?_|refine qbc ‹_› ?_|refine pkF ‹_› ?_|refine qar ‹_› ?_|refine qav hC (pw) ?_|refine qav hC (pt) ?_|refine qav hC (qbn z2 (gB L (0 + 2))) ?_|refine qaq hS (by kernel_rfl) ?_);conv => whnf)
     have w01:IntKind.i64.wrap (0 + 1) = Int.ofNat (2 * 0 + 1) :=by kernel_rfl
     have iq0:inR (IntKind.i64.wrap (0 + 1)) (zl (flN t)).length = true :=by rw [w01];exact qbf q1
     have gq0:nth (ivs (zl (flN t))) ((IntKind.i64.wrap (0 + 1)).toNat * 1) = some (nv (gq t 0).2) :=by rw [w01];exact gB2 0 ht1
     refine qa6 hE hS ?_
     conv => whnf
     try have z126:=qbk q0
     try have z127:=qbf q0
     repeat ((first|refine qa2 (nthP (gA 0 ht1)) ?_|refine qa2 (nthP gq0) ?_|refine qa5 ‹_› ?_|refine qa4 ‹_› ?_|refine pkT ‹_› ?_|refine qax ‹_› ?_|refine qa9 ‹_› ?_|refine qbc ‹_› ?_|refine pkF ‹_› ?_|refine qar ‹_› ?_|refine qaq hS (by kernel_rfl) ?_);conv => whnf)
     refine qbh hE hS (A :=Nat) [0,2,9,10,13,67,68,69] (fun j => [(14,.lst (flat (zp (t.take j))) j (.ch 34)),(15,nv (2 * j))]) (fun j => [(34,.chain j 2 74)]) (fun _ => []) (fun j => 1 ≤ j ∧ j ≤ t.length) (fun j => t.length - j) 1 (kle rfl) rfl (zhg 36) ⟨Nat.le_refl _,ht1⟩ ?_
     intro j ⟨hj,hjN⟩ K hK
     obtain rfl:K = 36 :=hK
     conv => whnf
     by_cases hj2:j < t.length
     ·have q0:2 * j < (zl (flN t)).length :=by omega
      have q1:2 * j + 1 < (zl (flN t)).length :=by omega
      have w1:IntKind.i64.wrap (Int.ofNat (2 * j) + 1) = Int.ofNat (2 * j + 1) :=qbr (m :=2 * j + 1) (by omega)
      have w22:IntKind.i64.wrap (Int.ofNat (2 * j) + 2) = Int.ofNat (2 * (j + 1)) :=qbr (m :=2 * (j + 1)) (by omega)
      have x1:decide ((j + (0 + 1)) * 16 ≤ 140737488355328) = true :=decide_eq_true (by omega)
      have x2:decide (j + (0 + 1) ≤ 9223372036854775807) = true :=decide_eq_true (by omega)
      have x4:decide (j = j) = true :=decide_eq_true rfl
      have x5 :=qcb t hjN
      have f2:AV.lst (flat (zp (t.take j)) ++ [nv (gq t j).1,nv (gq t j).2]) (j + (0 + 1)) (.ch 34) = .lst (flat (zp (t.take (j + 1)))) (j + 1) (.ch 34) :=by rw [qbx t hj2,qb6]
      have iq:inR (IntKind.i64.wrap (Int.ofNat (2 * j) + 1)) (zl (flN t)).length = true :=by rw [w1];exact qbf q1
      have gq1:nth (ivs (zl (flN t))) ((IntKind.i64.wrap (Int.ofNat (2 * j) + 1)).toNat * 1) = some (nv (gq t j).2) :=by rw [w1];exact gB2 j hj2
      try have z128:=qbk q0
      try have z129:=qbf q0
      repeat ((first|refine qa2 (nthP (gA j hj2)) ?_|refine qa2 (nthP gq1) ?_|refine qa5 ‹_› ?_|refine qa4 ‹_› ?_|refine pkT ‹_› ?_|refine qax ‹_› ?_|refine qa9 ‹_› ?_|refine qbc ‹_› ?_|refine pkF ‹_› ?_|refine qar ‹_› ?_|refine qaq hS (by kernel_rfl) ?_);conv => whnf)
      exact ⟨j + 1,⟨by omega,hj2⟩,by omega,kle rfl,(zhg 36)⟩
     ·have hjE:j = t.length :=by omega
      refine qar (qb9 (show ¬ 2 * j < (zl (flN t)).length by omega)) ?_
      conv => whnf
      refine .inl ?_
      conv => whnf
      have hq:WkV (.lst (flat (zp (t.take j))) j (.ch 34)) (xqV (gT T 0)) :=by rw [← et,hjE,List.take_length];exact qcs ht0 rfl
      repeat ((first|refine qaq hS (by kernel_rfl) ?_);conv => whnf)
      exact ⟨(1,ptV T 1,[.chain 1 1 45]),[36],⟨hi2,.inr ⟨Nat.zero_lt_one,rfl,rfl⟩⟩,by show T.length - 1 < T.length - 0;omega,zhr⟩
   ·have hiE:T.length = 0 :=by omega
    have pT :=qed (r :=(a,b,c,d + 1)) (c :=22) hNI (.inl ⟨rfl,List.eq_nil_of_length_eq_zero hiE⟩) oR sW
    refine qar (qb9 (show ¬ 0 < n by omega)) ?_
    conv => whnf
    repeat ((first|refine qav hC (pT) ?_|refine qav hC (qbn te s) ?_|refine qaq hS (by kernel_rfl) ?_);conv => whnf)
    exact ⟨_,rfl,qvt (List.eq_nil_of_length_eq_zero hiE)⟩
  ·obtain ⟨hj9,rfl,rfl⟩ :=hv
   obtain rfl:K = 23 :=hK
   conv => whnf
   by_cases hi2:i < T.length
   ·have hir:i < n :=by omega
    have hi1:IntKind.i64.wrap (Int.ofNat i + 1) = Int.ofNat (i + 1) :=qbr (m :=i + 1) (by omega)
    have d1:decide ((i + (0 + 1)) * 24 ≤ 140737488355328) = true :=decide_eq_true (by omega)
    have d2:decide (i + (0 + 1) ≤ 9223372036854775807) = true :=decide_eq_true (by omega)
    have d4:decide (i = i) = true :=decide_eq_true rfl
    have d5 :=qcx T hi
    have gI :=qck L (a :=2) (n :=n) (i :=i) (by omega) hir
    have hr :=hT i hi2
    refine Exists.elim hr.ex fun l hl2 => ?_
    have pw :=hl2.1
    have pt :=hl2.2
    have hle :=hr.le
    obtain ⟨t,et⟩ : ∃ t,t = gT T i :=⟨_,rfl⟩
    rw [← et] at pt hle
    have lL2 :=qbs l
    refine Or.elim (Classical.em (t = [])) (fun ht0 => ?_) fun ht0 => ?_
    ·have eU:nlV (flN t) = .nils :=by rw [ht0];rfl
     rw [eU] at pt
     have hq:WkV .nils (xqV (gT T i)) :=by rw [← et,ht0];exact WkV.refl _
     have z2:((Int.tmod 0 2) == 0) = true :=rfl
     try have z130:=qbk hir
     try have z131:=qbf hir
     repeat ((first|refine qa2 (nthP gI) ?_|refine qa5 ‹_› ?_|refine qa4 ‹_› ?_|refine pkT ‹_› ?_|refine qax ‹_› ?_|refine qa9 ‹_› ?_|refine qbc ‹_› ?_|refine pkF ‹_› ?_|refine qar ‹_› ?_|refine qav hC (pw) ?_|refine qav hC (pt) ?_|refine qav hC (qbn z2 (gB L (i + 2))) ?_|refine qaq hS (by kernel_rfl) ?_);conv => whnf)
     refine qa6 hE hS ?_
     conv => whnf
     repeat ((first|refine qa5 ‹_› ?_|refine qa4 ‹_› ?_|refine pkT ‹_› ?_|refine qax ‹_› ?_|refine qa9 ‹_› ?_|refine qbc ‹_› ?_|refine pkF ‹_› ?_|refine qar ‹_› ?_|refine qaq hS (by kernel_rfl) ?_);conv => whnf)
     exact ⟨(i + 1,ptV T (i + 1),[.chain (i + 1) 1 45]),[22],⟨hi2,.inr ⟨Nat.succ_pos _,rfl,rfl⟩⟩,by show T.length - (i + 1) < T.length - i;omega,zhr⟩
    ·have eU:nlV (flN t) = nl (zl (flN t)) :=if_neg fun z => ht0 (by rw [← qci t,z];rfl)
     rw [eU] at pt
     have lM :=qby (zl (flN t))
     have hM:(zl (flN t)).length = 2 * t.length :=by rw [qcd,qbi]
     have ht1:0 < t.length :=List.length_pos_iff.2 ht0
     have z2:(Int.tmod ((zl (flN t)).length:Int) 2 == 0) = true :=by rw [hM];exact beq_iff_eq.2 (by rw [show ((2 * t.length:Nat):Int) = Int.ofNat (2 * t.length) from rfl,show (2:Int) = Int.ofNat 2 from rfl,qei,Nat.mul_mod_right];rfl)
     have hg :=fun j (hj:j < t.length) => qcq t hj
     have gA:∀ j,j < t.length → nth (ivs (zl (flN t))) (2 * j * 1) = some (nv (gq t j).1) :=fun j hj => (qbq (l :=zl (flN t)) (i :=2 * j) (by omega)).trans (by rw [qcf (flN t) (by rw [qbi];omega),(hg j hj).1])
     have gB2:∀ j,j < t.length → nth (ivs (zl (flN t))) ((2 * j + 1) * 1) = some (nv (gq t j).2) :=fun j hj => (qbq (l :=zl (flN t)) (i :=2 * j + 1) (by omega)).trans (by rw [qcf (flN t) (by rw [qbi];omega),(hg j hj).2])
     have q0:2 * 0 < (zl (flN t)).length :=by omega
     have q1:2 * 0 + 1 < (zl (flN t)).length :=by omega
     have f1:AV.lst [nv (gq t 0).1,nv (gq t 0).2] (0 + 1) (.ch 35) = .lst (flat (zp (t.take 1))) 1 (.ch 35) :=by rw [qbx t ht1];rfl
     try have z132:=qbk hir
     try have z133:=qbf hir
     repeat ((first|refine qa2 (nthP gI) ?_|refine qa5 ‹_› ?_|refine qa4 ‹_› ?_|refine pkT ‹_› ?_|refine qax ‹_› ?_|refine qa9 ‹_› ?_|refine qbc ‹_› ?_|refine pkF ‹_› ?_|refine qar ‹_› ?_|refine qav hC (pw) ?_|refine qav hC (pt) ?_|refine qav hC (qbn z2 (gB L (i + 2))) ?_|refine qaq hS (by kernel_rfl) ?_);conv => whnf)
     have w01:IntKind.i64.wrap (0 + 1) = Int.ofNat (2 * 0 + 1) :=by kernel_rfl
     have iq0:inR (IntKind.i64.wrap (0 + 1)) (zl (flN t)).length = true :=by rw [w01];exact qbf q1
     have gq0:nth (ivs (zl (flN t))) ((IntKind.i64.wrap (0 + 1)).toNat * 1) = some (nv (gq t 0).2) :=by rw [w01];exact gB2 0 ht1
     refine qa6 hE hS ?_
     conv => whnf
     try have z134:=qbk q0
     try have z135:=qbf q0
     repeat ((first|refine qa2 (nthP (gA 0 ht1)) ?_|refine qa2 (nthP gq0) ?_|refine qa5 ‹_› ?_|refine qa4 ‹_› ?_|refine pkT ‹_› ?_|refine qax ‹_› ?_|refine qa9 ‹_› ?_|refine qbc ‹_› ?_|refine pkF ‹_› ?_|refine qar ‹_› ?_|refine qaq hS (by kernel_rfl) ?_);conv => whnf)
     refine qbh hE hS (A :=Nat) [0,2,9,10,13,67,68,69] (fun j => [(14,.lst (flat (zp (t.take j))) j (.ch 35)),(15,nv (2 * j))]) (fun j => [(35,.chain j 2 74)]) (fun _ => []) (fun j => 1 ≤ j ∧ j ≤ t.length) (fun j => t.length - j) 1 (kle rfl) rfl (zhg 37) ⟨Nat.le_refl _,ht1⟩ ?_
     intro j ⟨hj,hjN⟩ K hK
     obtain rfl:K = 37 :=hK
     conv => whnf
     by_cases hj2:j < t.length
     ·have q0:2 * j < (zl (flN t)).length :=by omega
      have q1:2 * j + 1 < (zl (flN t)).length :=by omega
      have w1:IntKind.i64.wrap (Int.ofNat (2 * j) + 1) = Int.ofNat (2 * j + 1) :=qbr (m :=2 * j + 1) (by omega)
      have w22:IntKind.i64.wrap (Int.ofNat (2 * j) + 2) = Int.ofNat (2 * (j + 1)) :=qbr (m :=2 * (j + 1)) (by omega)
      have x1:decide ((j + (0 + 1)) * 16 ≤ 140737488355328) = true :=decide_eq_true (by omega)
      have x2:decide (j + (0 + 1) ≤ 9223372036854775807) = true :=decide_eq_true (by omega)
      have x4:decide (j = j) = true :=decide_eq_true rfl
      have x5 :=qcb t hjN
      have f2:AV.lst (flat (zp (t.take j)) ++ [nv (gq t j).1,nv (gq t j).2]) (j + (0 + 1)) (.ch 35) = .lst (flat (zp (t.take (j + 1)))) (j + 1) (.ch 35) :=by rw [qbx t hj2,qb6]
      have iq:inR (IntKind.i64.wrap (Int.ofNat (2 * j) + 1)) (zl (flN t)).length = true :=by rw [w1];exact qbf q1
      have gq1:nth (ivs (zl (flN t))) ((IntKind.i64.wrap (Int.ofNat (2 * j) + 1)).toNat * 1) = some (nv (gq t j).2) :=by rw [w1];exact gB2 j hj2
      try have z136:=qbk q0
      try have z137:=qbf q0
      repeat ((first|refine qa2 (nthP (gA j hj2)) ?_|refine qa2 (nthP gq1) ?_|refine qa5 ‹_› ?_|refine qa4 ‹_› ?_|refine pkT ‹_› ?_|refine qax ‹_› ?_|refine qa9 ‹_› ?_|refine qbc ‹_› ?_|refine pkF ‹_› ?_|refine qar ‹_› ?_|refine qaq hS (by kernel_rfl) ?_);conv => whnf)
      exact ⟨j + 1,⟨by omega,hj2⟩,by omega,kle rfl,(zhg 37)⟩
     ·have hjE:j = t.length :=by omega
      refine qar (qb9 (show ¬ 2 * j < (zl (flN t)).length by omega)) ?_
      conv => whnf
      refine .inl ?_
      conv => whnf
      have hq:WkV (.lst (flat (zp (t.take j))) j (.ch 35)) (xqV (gT T i)) :=by rw [← et,hjE,List.take_length];exact qcs ht0 rfl
      repeat ((first|refine qa5 ‹_› ?_|refine qa4 ‹_› ?_|refine pkT ‹_› ?_|refine qax ‹_› ?_|refine qa9 ‹_› ?_|refine qbc ‹_› ?_|refine pkF ‹_› ?_|refine qar ‹_› ?_|refine qaq hS (by kernel_rfl) ?_);conv => whnf)
      exact ⟨(i + 1,ptV T (i + 1),[.chain (i + 1) 1 45]),[22],⟨hi2,.inr ⟨Nat.succ_pos _,rfl,rfl⟩⟩,by show T.length - (i + 1) < T.length - i;omega,zhr⟩
   ·have hiE:T.length = i :=by omega
    have eT:ptV T i = .lst (xqs T) T.length (.ch 22) :=by unfold ptV;rw [← hiE,List.take_length]
    have pT :=qed (r :=(a,b,c,d + 1)) (c :=22) hNI (.inr eT) oR sW
    refine qar (qb9 (show ¬ i < n by omega)) ?_
    conv => whnf
    repeat ((first|refine qav hC (pT) ?_|refine qav hC (qbn te s) ?_|refine qaq hS (by kernel_rfl) ?_);conv => whnf)
    exact ⟨_,rfl,qvs hj9 hiE⟩
end
end Go.Abs.Seat
