/-
  A text, as the program reads it.
-/
import Derived.Test.YtlmadgdonalncaaGreatDoorU12
import Derived.Test.YtlmadgdonalncaaGreatDoorU10
import Derived.Test.YtlmadgdonalncaaGreatDoorU11
import Derived.Test.YtlmadgdonalncaaGreatDoorU7
namespace Go.Abs.Seat
noncomputable section
open Go Go.Abs Go.Proofs.Tryz
set_option maxRecDepth 100000
set_option maxHeartbeats 40000000
attribute [local irreducible] pEq qb8 IntKind.wrap
theorem takN:∀ (n:Nat) (l:List AV),n ≤ l.length → qbz n l = some (l.take n)
 | 0,l,_ => by cases l <;> rfl
 |n + 1,[],h => absurd h (Nat.not_succ_le_zero _)
 |n + 1,x :: r,h => by
  have :=takN n r (Nat.le_of_succ_le_succ h)
  simp only [qbz,this,List.take_succ_cons]
theorem drpN:∀ (n:Nat) (l:List AV),qcf n l = l.drop n
 | 0,l => by cases l <;> rfl
 |n + 1,[] => rfl
 |n + 1,x :: r => drpN n r
theorem qij {T:Tr TypeInfo} {t e:TypeId} {inf:TypeInfo} {L:List (List UInt8)} {k1 k2:IntKind} {x y:Int} {a n:Nat} (hT:tyU T t = some (.slice e)) (hi:T.get e = some inf) (h1:inf.size = 1) (hx:x = Int.ofNat a) (hy:y = Int.ofNat (a + n)) (hb:a + n ≤ L.length):qb8 T t (.lst (stA L) L.length .no) (some (.int k1 x)) (some (.int k2 y)) = .chk true (.ret (.lst (stA ((L.drop a).take n)) n .no)) :=by
 subst hx hy
 unfold qb8
 rw [hT]
 have e1:bnd (some (.int k2 (Int.ofNat (a + n)))) L.length L.length = some (a + n) :=by
  have z1:decide ((0:Int) ≤ Int.ofNat (a + n)) = true :=decide_eq_true (Int.natCast_nonneg _)
  have z2:decide (Int.ofNat (a + n) ≤ (L.length:Int)) = true :=decide_eq_true (Int.ofNat_le.2 hb)
  simp only [bnd]
  show (match decide ((0:Int) ≤ Int.ofNat (a + n)) && decide (Int.ofNat (a + n) ≤ (L.length:Int)) with | true => some (Int.ofNat (a + n)).toNat | false => none) = some (a + n)
  rw [z1,z2];rfl
 have e2:bnd (some (.int k1 (Int.ofNat a))) 0 (a + n) = some a :=by
  have z1:decide ((0:Int) ≤ Int.ofNat a) = true :=decide_eq_true (Int.natCast_nonneg _)
  have z2:decide (Int.ofNat a ≤ ((a + n:Nat):Int)) = true :=decide_eq_true (Int.ofNat_le.2 (Nat.le_add_right _ _))
  simp only [bnd]
  show (match decide ((0:Int) ≤ Int.ofNat a) && decide (Int.ofNat a ≤ ((a + n:Nat):Int)) with | true => some (Int.ofNat a).toNat | false => none) = some a
  rw [z1,z2];rfl
 have e3:decide (a * inf.size ≤ (stA L).length) = true :=decide_eq_true (by rw [h1,qga];omega)
 have e4:qbz (n * inf.size) (qcf (a * inf.size) (stA L)) = some (stA ((L.drop a).take n)) :=by
  rw [h1,Nat.mul_one,Nat.mul_one,drpN,takN _ _ (by rw [List.length_drop,qga];omega)]
  unfold stA
  rw [← List.map_drop,← List.map_take]
 simp only [hi,e1,e2,e3,e4,Nat.add_sub_cancel_left]
def pM (w:List UInt8) (n:Nat):Prop :=n < 100 ∧ Pure prog 143 [.str w,iv 0,iv 1] (nl (zl [n]))
def pL (w:List UInt8) (x:Lk):Prop :=(x.1 < 100 ∧ x.2.1 < 100 ∧ x.2.2 < 100) ∧ Pure prog 143 [.str w,iv 1,iv 3] (nl (zl [x.1,x.2.1,x.2.2]))
def pH (w:List UInt8) (n:Nat):Prop :=n < 100 ∧ Pure prog 143 [.str w,iv 2,iv 1] (nl (zl [n]))
theorem qbl (L:List (List UInt8)) {a n i:Nat} (h:a + n ≤ L.length) (hi:i < n):nth (stA ((L.drop a).take n)) (i * 1) = some (.str (gB L (i + a))) :=by
 have l1:i < ((L.drop a).take n).length :=by rw [List.length_take,List.length_drop];omega
 rw [qa9 l1]
 have e:gB ((L.drop a).take n) i = gB L (i + a) :=by
  simp only [gB,List.getD_eq_getElem?_getD]
  rw [List.getElem?_take_of_lt hi,List.getElem?_drop,Nat.add_comm]
 rw [e]
def xN (N:List Lk):AV :=if N = [] then .nils else nkA N
def yH (H:List Nat):AV :=if H = [] then .nils else nl (zl H)
def lkVb (N:List Lk) (i c:Nat):AV :=.lst (lks (cL (N.take i))) i (.ch c)
def hdV (H:List Nat) (i c:Nat):AV :=.lst (ivs (zl (H.take i))) i (.ch c)
def uxL (i:Nat):List AObj :=[.hole,.hole,.hole,.hole,.hole,.hole,.hole,.hole,.hole,.hole,.hole,.hole,.hole,.hole,.chain i 3 94,.hole,.hole]
def uxH (i:Nat):List AObj :=[.hole,.hole,.hole,.hole,.hole,.hole,.chain i 1 3,.hole,.hole]
theorem qbf (N:List Lk) (i:Nat) {c n:Nat} (h:c + 1 ≤ n):bd (lkVb N i c) ≤ n :=Nat.max_le.2 ⟨h,qai (qa5 _)⟩
theorem qcv (H:List Nat) (i:Nat) {c n:Nat} (h:c + 1 ≤ n):bd (hdV H i c) ≤ n :=Nat.max_le.2 ⟨h,qai (qav _)⟩
theorem qwv (N:List Lk):Live noL (xN N) :=by
 unfold xN
 split
 ·trivial
 ·exact qxq _
theorem qwt (H:List Nat):Live noL (yH H) :=by
 unfold yH
 split
 ·trivial
 ·exact qq9 _
theorem qcy {v v' w:AV} {ty:Nat} (e:v = v'):AObj.cells (.node v (.node w .nil .nil) .nil) 2 ty = .cells (.node v' (.node w .nil .nil) .nil) 2 ty :=e ▸ rfl
theorem qcd {v v' w:AV} {ty:Nat} (e:v = v'):AObj.cells (.node w (.node v .nil .nil) .nil) 2 ty = .cells (.node w (.node v' .nil .nil) .nil) 2 ty :=e ▸ rfl
theorem qfd (c:UInt8) (s:List UInt8):(spl c s).length ≤ s.length + 1 :=by
 rw [qc9]
 exact Nat.succ_le_succ List.count_le_length
theorem qg5 (N:List Lk) (c:Nat) (h:0 < N.length):AV.lst [nv (gN N 0).1,nv (gN N 0).2.1,nv (gN N 0).2.2] (0 + 1) (.ch c) = lkVb N 1 c :=by
 unfold lkVb
 rw [qhg N h];rfl
theorem qj4 (N:List Lk) (c:Nat) {i:Nat} (h:i < N.length):AV.lst (lks (cL (N.take i)) ++ [nv (gN N i).1,nv (gN N i).2.1,nv (gN N i).2.2]) (i + (0 + 1)) (.ch c) = lkVb N (i + 1) c :=by
 unfold lkVb
 rw [qhg N h,qlc,qj3];rfl
theorem qg8 (N:List Lk) {i:Nat} (h:i ≤ N.length):qc6 (lks (cL (N.take i))) (i * 3) = true :=by
 have :=qcp (lks (cL (N.take i)))
 rwa [lks_len,qcu,List.length_take,Nat.min_eq_left h] at this
theorem qef (H:List Nat) (c:Nat) (h:0 < H.length):AV.lst [nv (gn H 0)] (0 + 1) (.ch c) = hdV H 1 c :=by
 unfold hdV
 rw [qf8 H h];rfl
theorem qfo (H:List Nat) (c:Nat) {i:Nat} (h:i < H.length):AV.lst (ivs (zl (H.take i)) ++ [nv (gn H i)]) (i + (0 + 1)) (.ch c) = hdV H (i + 1) c :=by
 unfold hdV
 rw [qf8 H h,qpb]
theorem qee (H:List Nat) {i:Nat} (h:i ≤ H.length):qc6 (ivs (zl (H.take i))) (i * 1) = true :=by
 have :=qcp (ivs (zl (H.take i)))
 rw [ivs_len,qbs,List.length_take,Nat.min_eq_left h] at this
 rwa [Nat.mul_one]
theorem qq0 {L:List (List UInt8)} {a:Nat} {N:List Lk} {H:List Nat} (hN:∀ i,i < N.length → pL (gB L (i + 1)) (gN N i)) (hH:∀ i,i < H.length → pH (gB L (i + a)) (gn H i)):okT N H :=by
 refine ⟨fun x hx => ?_,fun n hn => ?_⟩
 ·obtain ⟨i,hi,e⟩ :=List.getElem_of_mem hx
  have :=(hN i hi).1
  rwa [show gN N i = x by rw [← e];simp [gN,List.getD,hi]] at this
 ·obtain ⟨i,hi,e⟩ :=List.getElem_of_mem hn
  have :=(hH i hi).1
  rwa [show gn H i = n by rw [← e];simp [gn,List.getD,hi]] at this
theorem qdo {N:List Lk} {H:List Nat} {v w:AV} {c d:Nat} (h:okT N H) (hN:N.length < 100) (hH:H.length ≤ 400) (hv:v = .nils ∧ N = [] ∨ v = lkVb N N.length c ∧ N ≠ []) (hw:w = .nils ∧ H = [] ∨ w = hdV H H.length d ∧ H ≠ []):Pure prog 90 [.agg [v,w]] (.str (prtB N H)) :=by
 have e1:wk (lkVb N N.length c) = nkA N :=by
  simp only [lkVb,wk,qf7,List.take_length]
 have e2:wk (hdV H H.length d) = nl (zl H) :=by
  simp only [hdV,wk,qfi,List.take_length]
  show AV.lst _ _ _ = AV.lst _ (zl H).length _
  rw [qbs]
 refine Pure.ofWk ?_
 have k :=qkn (x :=wk v) (y :=wk w) h hN hH (by
  rcases hv with ⟨rfl,e⟩ | ⟨rfl,e⟩
  ·exact .inl ⟨rfl,e⟩
  ·exact .inr ⟨e1,e⟩) (by
  rcases hw with ⟨rfl,e⟩ | ⟨rfl,e⟩
  ·exact .inl ⟨rfl,e⟩
  ·exact .inr ⟨e2,e⟩)
 exact k
theorem qsh {N:List Lk} {H:List Nat} {v w:AV} {c d:Nat} (hv:v = .nils ∧ N = [] ∨ v = lkVb N N.length c ∧ N ≠ []) (hw:w = .nils ∧ H = [] ∨ w = hdV H H.length d ∧ H ≠ []):Wk (.agg [v,w]) (.agg [xN N,yH H]) :=by
 have e1:wk (lkVb N N.length c) = nkA N :=by
  simp only [lkVb,wk,qf7,List.take_length]
 have e2:wk (hdV H H.length d) = nl (zl H) :=by
  simp only [hdV,wk,qfi,List.take_length]
  show AV.lst _ _ _ = AV.lst _ (zl H).length _
  rw [qbs]
 have k :=Wk.wk (.agg [v,w])
 have k1:wk v = xN N :=by
  rcases hv with ⟨rfl,e⟩ | ⟨rfl,e⟩
  ·rw [xN,if_pos e];rfl
  ·rw [xN,if_neg e,e1]
 have k2:wk w = yH H :=by
  rcases hw with ⟨rfl,e⟩ | ⟨rfl,e⟩
  ·rw [yH,if_pos e];rfl
  ·rw [yH,if_neg e,e2]
 rw [← k1,← k2]
 exact k
theorem qqh {s:List UInt8} {N:List Lk} {H:List Nat} (hs:s.length ≤ 300) (h0:pM (gB (spl 10 s) 0) N.length) (hm:N.length + H.length + 3 = (spl 10 s).length) (hN:∀ i,i < N.length → pL (gB (spl 10 s) (i + 1)) (gN N i)) (hH:∀ i,i < H.length → pH (gB (spl 10 s) (i + (N.length + 1))) (gn H i)) (he:prtB N H = s):Pure prog 95 [.str s] (.agg [xN N,yH H]) :=by
 have pS :=qbn s 10 (by omega)
 have lS :=qa1 (spl 10 s)
 have hl :=qfd 10 s
 obtain ⟨L,hL⟩ : ∃ L,L = spl 10 s :=⟨_,rfl⟩
 rw [← hL] at h0 hm hN hH pS lS hl
 have p0 :=h0.2
 have hn :=h0.1
 have ir:inR 0 L.length = true :=qaj (i :=0) (by omega)
 have n0:nth (stA L) (0:Int).toNat = some (.str (gB L 0)) :=qa9 (l :=L) (i :=0) (by omega)
 have w3:IntKind.i64.wrap (Int.ofNat N.length + 3) = Int.ofNat (N.length + 3) :=qaz (m :=N.length + 3) (by omega)
 have w1:IntKind.i64.wrap (Int.ofNat N.length + 1) = Int.ofNat (N.length + 1) :=qaz (m :=N.length + 1) (by omega)
 have g3:decide ((L.length:Int) ≥ IntKind.i64.wrap (Int.ofNat N.length + 3)) = true :=decide_eq_true (by rw [w3];simp only [Int.ofNat_eq_natCast];omega)
 have w2:IntKind.i64.wrap ((L.length:Int) - 2) = Int.ofNat (N.length + 1 + H.length) :=by rw [← hm];exact (qel (by omega) (by omega)).trans (by simp only [Int.ofNat_eq_natCast];omega)
 have hT :=qq0 hN hH
 have lX :=qwv N
 have lY :=qwt H
 have te:(prtB N H == s) = true :=beq_iff_eq.2 he
 refine qas hE rfl (by repeat' first|exact trivial|assumption|exact qah _|exact fun _ h => nomatch h|apply And.intro) (by repeat' first|exact trivial|assumption|exact qah _|exact fun _ h => nomatch h|apply And.intro) fun S q pc hS hq hC hE => ?_
 conv => whnf
 repeat ((first|refine qak (nthP n0) ?_|refine qak (qij (e :=9) (inf :=t9) (L :=L) (a :=1) (n :=N.length) (by kernel_rfl) (by kernel_rfl) (by kernel_rfl) rfl (w1.trans (by rw [Nat.add_comm])) (by omega)) ?_|refine qag ir ?_|refine qaf ir ?_|refine pkT ir ?_|refine qaa ir ?_|refine qac hC (pS) ?_|refine qac hC (p0) ?_|refine qac hC (qdw g3 s) ?_|refine qad hS (by kernel_rfl) ?_);conv => whnf)
 have lT :=qa1 ((L.drop 1).take N.length)
 refine qax hE hS (A :=Nat × AV × List AObj) [0,2,3,4,5,30,31] (fun (i,_,_) => [(32,nv i)]) (fun (_,v,_) => [(1,.cells (.node v (.node .nils .nil .nil) .nil) 2 64)]) (fun a => a.2.2) (fun (i,v,ux) => i ≤ N.length ∧ (i = 0 ∧ v = .nils ∧ ux = [] ∨ 0 < i ∧ v = lkVb N i 16 ∧ ux = uxL i)) (fun (i,_,_) => N.length - i) (0,.nils,[]) (kle rfl) rfl (by refine ⟨rfl,rfl,rfl,rfl,rfl,rfl,2,rfl,?_,?_⟩ <;> repeat' (first|exact trivial|exact rfl|exact wkr rfl|exact wko rfl|exact Nat.zero_le _|exact qbf _ _ (by decide)|exact kle rfl|exact bdq|exact mxI rfl|exact mxS rfl|apply And.intro)) ⟨Nat.zero_le _,.inl ⟨rfl,rfl,rfl⟩⟩ ?_
 rintro ⟨i,v,ux⟩ ⟨hi,hv⟩ K hK
 have hi:i ≤ N.length :=hi
 have lK :=qa5 (cL (N.take i))
 refine Or.elim hv (fun hv => ?_) fun hv => ?_
 ·obtain ⟨rfl,rfl,rfl⟩ :=hv
  obtain rfl:K = 2 :=hK
  conv => whnf
  by_cases hi2:0 < N.length
  ·have hir:0 < N.length :=by omega
   have hi1:IntKind.i64.wrap (Int.ofNat 0 + 1) = Int.ofNat (0 + 1) :=qaz (m :=0 + 1) (by omega)
   have pN :=(hN 0 hi2).2
   have gI :=qbl L (a :=1) (n :=N.length) (i :=0) (by omega) hir
   have e2 :=qg5 N 16 hi2
   repeat ((first|refine qak (nthP gI) ?_|refine qag (qae hir) ?_|refine qaf (qae hir) ?_|refine pkT (qae hir) ?_|refine qaa (qae hir) ?_|refine qal (qae hir) ?_|refine qam (qae hir) ?_|refine pkF (qae hir) ?_|refine qab (qae hir) ?_|refine qag (qaj hir) ?_|refine qaf (qaj hir) ?_|refine pkT (qaj hir) ?_|refine qaa (qaj hir) ?_|refine qac hC (pN) ?_|refine qad hS (by kernel_rfl) ?_);conv => whnf)
   exact ⟨(1,lkVb N 1 16,uxL 1),⟨hi2,.inr ⟨Nat.zero_lt_one,rfl,rfl⟩⟩,by show N.length - 1 < N.length - 0;omega,kle rfl,(by refine ⟨rfl,rfl,rfl,rfl,rfl,rfl,19,rfl,?_,?_⟩ <;> repeat' (first|exact trivial|exact rfl|exact wkr rfl|exact wko rfl|exact Nat.zero_le _|exact ⟨_,rfl,WkV.int hi1⟩|exact qcy e2|exact qbf _ _ (by decide)|exact kle rfl|exact bdq|exact mxI rfl|exact mxS rfl|apply And.intro))⟩
  ·have hiE:N.length = 0 :=by omega
   refine qab (qbe hi2) ?_
   conv => whnf
   refine .inl ?_
   conv => whnf
   have eN:N = [] :=by exact List.eq_nil_of_length_eq_zero (by omega)
   repeat ((first|refine qak (qij (e :=9) (inf :=t9) (L :=L) (a :=N.length + 1) (n :=H.length) (by kernel_rfl) (by kernel_rfl) (by kernel_rfl) w1 w2 (by omega)) ?_|refine qad hS (by kernel_rfl) ?_);conv => whnf)
   have lU :=qa1 ((L.drop (N.length + 1)).take H.length)
   have lW :=qa5 (cL (N.take N.length))
   refine qax hE hS (A :=Nat × AV × List AObj) [0,2,3,4,5,61,62] (fun (j,_,_) => [(63,nv j)]) (fun (_,w,_) => [(1,.cells (.node .nils (.node w .nil .nil) .nil) 2 64)]) (fun a => a.2.2) (fun (j,w,ux) => j ≤ H.length ∧ (j = 0 ∧ w = .nils ∧ ux = [] ∨ 0 < j ∧ w = hdV H j 8 ∧ ux = uxH j)) (fun (j,_,_) => H.length - j) (0,.nils,[]) (kle rfl) rfl (by refine ⟨rfl,rfl,rfl,rfl,rfl,rfl,2,rfl,?_,?_⟩ <;> repeat' (first|exact trivial|exact rfl|exact wkr rfl|exact wko rfl|exact Nat.zero_le _|exact qcv _ _ (by decide)|exact qbf _ _ (by decide)|exact kle rfl|exact bdq|exact mxI rfl|exact mxS rfl|apply And.intro)) ⟨Nat.zero_le _,.inl ⟨rfl,rfl,rfl⟩⟩ ?_
   rintro ⟨j,w,ux⟩ ⟨hj,hw⟩ K hK
   have hj:j ≤ H.length :=hj
   have lV :=qav (zl (H.take j))
   refine Or.elim hw (fun hw => ?_) fun hw => ?_
   ·obtain ⟨rfl,rfl,rfl⟩ :=hw
    obtain rfl:K = 2 :=hK
    conv => whnf
    by_cases hj3:0 < H.length
    ·have hjr:0 < H.length :=by omega
     have hj1:IntKind.i64.wrap (Int.ofNat 0 + 1) = Int.ofNat (0 + 1) :=qaz (m :=0 + 1) (by omega)
     have pN :=(hH 0 hj3).2
     have gI :=qbl L (a :=N.length + 1) (n :=H.length) (i :=0) (by omega) hjr
     have e2 :=qef H 8 hj3
     repeat ((first|refine qak (nthP gI) ?_|refine qag (qae hjr) ?_|refine qaf (qae hjr) ?_|refine pkT (qae hjr) ?_|refine qaa (qae hjr) ?_|refine qal (qae hjr) ?_|refine qam (qae hjr) ?_|refine pkF (qae hjr) ?_|refine qab (qae hjr) ?_|refine qag (qaj hjr) ?_|refine qaf (qaj hjr) ?_|refine pkT (qaj hjr) ?_|refine qaa (qaj hjr) ?_|refine qac hC (pN) ?_|refine qad hS (by kernel_rfl) ?_);conv => whnf)
     exact ⟨(1,hdV H 1 8,uxH 1),⟨hj3,.inr ⟨Nat.zero_lt_one,rfl,rfl⟩⟩,by show H.length - 1 < H.length - 0;omega,kle rfl,(by refine ⟨rfl,rfl,rfl,rfl,rfl,rfl,11,rfl,?_,?_⟩ <;> repeat' (first|exact trivial|exact rfl|exact wkr rfl|exact wko rfl|exact Nat.zero_le _|exact ⟨_,rfl,WkV.int hj1⟩|exact e2|exact qcd e2|exact qcv _ _ (by decide)|exact qbf _ _ (by decide)|exact kle rfl|exact bdq|exact mxI rfl|exact mxS rfl|apply And.intro))⟩
    ·have hjE:H.length = 0 :=by omega
     refine qab (qbe hj3) ?_
     conv => whnf
     refine .inl ?_
     conv => whnf
     have eH:H = [] :=by exact List.eq_nil_of_length_eq_zero (by omega)
     have pT :=qdo (c :=16) (d :=8) hT (by omega) (by omega) (.inl ⟨rfl,eN⟩) (.inl ⟨rfl,eH⟩)
     repeat ((first|refine qac hC (pT) ?_|refine qac hC (qdw te s) ?_|refine qad hS (by kernel_rfl) ?_);conv => whnf)
     exact ⟨_,rfl,qsh (c :=16) (d :=8) (.inl ⟨rfl,eN⟩) (.inl ⟨rfl,eH⟩)⟩
   ·obtain ⟨hj2,rfl,rfl⟩ :=hw
    obtain rfl:K = 11 :=hK
    conv => whnf
    by_cases hj3:j < H.length
    ·have hjr:j < H.length :=by omega
     have hj1:IntKind.i64.wrap (Int.ofNat j + 1) = Int.ofNat (j + 1) :=qaz (m :=j + 1) (by omega)
     have pN :=(hH j hj3).2
     have gI :=qbl L (a :=N.length + 1) (n :=H.length) (i :=j) (by omega) hjr
     have d1:decide ((j + (0 + 1)) * 8 ≤ 140737488355328) = true :=decide_eq_true (by omega)
     have d2:decide (j + (0 + 1) ≤ 9223372036854775807) = true :=decide_eq_true (by omega)
     have d4:decide (j = j) = true :=decide_eq_true rfl
     have d5 :=qee H hj
     have e2 :=qfo H 8 hj3
     repeat ((first|refine qak (nthP gI) ?_|refine qag (qae hjr) ?_|refine qaf (qae hjr) ?_|refine pkT (qae hjr) ?_|refine qaa (qae hjr) ?_|refine qal (qae hjr) ?_|refine qam (qae hjr) ?_|refine pkF (qae hjr) ?_|refine qab (qae hjr) ?_|refine qag (qaj hjr) ?_|refine qaf (qaj hjr) ?_|refine pkT (qaj hjr) ?_|refine qaa (qaj hjr) ?_|refine qag d1 ?_|refine qaf d1 ?_|refine pkT d1 ?_|refine qaa d1 ?_|refine qag d2 ?_|refine qaf d2 ?_|refine pkT d2 ?_|refine qaa d2 ?_|refine qag d4 ?_|refine qaf d4 ?_|refine pkT d4 ?_|refine qaa d4 ?_|refine qag d5 ?_|refine qaf d5 ?_|refine pkT d5 ?_|refine qaa d5 ?_|refine qal d5 ?_|refine qam d5 ?_|refine pkF d5 ?_|refine qab d5 ?_|refine qac hC (pN) ?_|refine qad hS (by kernel_rfl) ?_);conv => whnf)
     exact ⟨(j + 1,hdV H (j + 1) 8,uxH (j + 1)),⟨hj3,.inr ⟨Nat.succ_pos _,rfl,rfl⟩⟩,by show H.length - (j + 1) < H.length - j;omega,kle rfl,(by refine ⟨rfl,rfl,rfl,rfl,rfl,rfl,11,rfl,?_,?_⟩ <;> repeat' (first|exact trivial|exact rfl|exact wkr rfl|exact wko rfl|exact Nat.zero_le _|exact ⟨_,rfl,WkV.int hj1⟩|exact e2|exact qcd e2|exact qcv _ _ (by decide)|exact qbf _ _ (by decide)|exact kle rfl|exact bdq|exact mxI rfl|exact mxS rfl|apply And.intro))⟩
    ·have hjE:H.length = j :=by omega
     subst hjE
     refine qab (qbe hj3) ?_
     conv => whnf
     refine .inl ?_
     conv => whnf
     have eH:H ≠ [] :=by intro z;rw [z] at hj2;exact absurd hj2 (Nat.not_lt_zero _)
     have pT :=qdo (c :=16) (d :=8) hT (by omega) (by omega) (.inl ⟨rfl,eN⟩) (.inr ⟨rfl,eH⟩)
     repeat ((first|refine qac hC (pT) ?_|refine qac hC (qdw te s) ?_|refine qad hS (by kernel_rfl) ?_);conv => whnf)
     exact ⟨_,rfl,qsh (c :=16) (d :=8) (.inl ⟨rfl,eN⟩) (.inr ⟨rfl,eH⟩)⟩
 ·obtain ⟨hi9,rfl,rfl⟩ :=hv
  obtain rfl:K = 19 :=hK
  conv => whnf
  by_cases hi2:i < N.length
  ·have hir:i < N.length :=by omega
   have hi1:IntKind.i64.wrap (Int.ofNat i + 1) = Int.ofNat (i + 1) :=qaz (m :=i + 1) (by omega)
   have pN :=(hN i hi2).2
   have gI :=qbl L (a :=1) (n :=N.length) (i :=i) (by omega) hir
   have d1:decide ((i + (0 + 1)) * 24 ≤ 140737488355328) = true :=decide_eq_true (by omega)
   have d2:decide (i + (0 + 1) ≤ 9223372036854775807) = true :=decide_eq_true (by omega)
   have d4:decide (i = i) = true :=decide_eq_true rfl
   have d5 :=qg8 N hi
   have e2 :=qj4 N 16 hi2
   repeat ((first|refine qak (nthP gI) ?_|refine qag (qae hir) ?_|refine qaf (qae hir) ?_|refine pkT (qae hir) ?_|refine qaa (qae hir) ?_|refine qal (qae hir) ?_|refine qam (qae hir) ?_|refine pkF (qae hir) ?_|refine qab (qae hir) ?_|refine qag (qaj hir) ?_|refine qaf (qaj hir) ?_|refine pkT (qaj hir) ?_|refine qaa (qaj hir) ?_|refine qag d1 ?_|refine qaf d1 ?_|refine pkT d1 ?_|refine qaa d1 ?_|refine qag d2 ?_|refine qaf d2 ?_|refine pkT d2 ?_|refine qaa d2 ?_|refine qag d4 ?_|refine qaf d4 ?_|refine pkT d4 ?_|refine qaa d4 ?_|refine qag d5 ?_|refine qaf d5 ?_|refine pkT d5 ?_|refine qaa d5 ?_|refine qal d5 ?_|refine qam d5 ?_|refine pkF d5 ?_|refine qab d5 ?_|refine qac hC (pN) ?_|refine qad hS (by kernel_rfl) ?_);conv => whnf)
   exact ⟨(i + 1,lkVb N (i + 1) 16,uxL (i + 1)),⟨hi2,.inr ⟨Nat.succ_pos _,rfl,rfl⟩⟩,by show N.length - (i + 1) < N.length - i;omega,kle rfl,(by refine ⟨rfl,rfl,rfl,rfl,rfl,rfl,19,rfl,?_,?_⟩ <;> repeat' (first|exact trivial|exact rfl|exact wkr rfl|exact wko rfl|exact Nat.zero_le _|exact ⟨_,rfl,WkV.int hi1⟩|exact qcy e2|exact qbf _ _ (by decide)|exact kle rfl|exact bdq|exact mxI rfl|exact mxS rfl|apply And.intro))⟩
  ·have hiE:N.length = i :=by omega
   subst hiE
   refine qab (qbe hi2) ?_
   conv => whnf
   refine .inl ?_
   conv => whnf
   have eN:N ≠ [] :=by intro z;rw [z] at hi9;exact absurd hi9 (Nat.not_lt_zero _)
   repeat ((first|refine qak (qij (e :=9) (inf :=t9) (L :=L) (a :=N.length + 1) (n :=H.length) (by kernel_rfl) (by kernel_rfl) (by kernel_rfl) w1 w2 (by omega)) ?_|refine qad hS (by kernel_rfl) ?_);conv => whnf)
   have lU :=qa1 ((L.drop (N.length + 1)).take H.length)
   have lW :=qa5 (cL (N.take N.length))
   refine qax hE hS (A :=Nat × AV × List AObj) [0,2,3,4,5,61,62] (fun (j,_,_) => [(63,nv j)]) (fun (_,w,_) => [(1,.cells (.node (lkVb N N.length 16) (.node w .nil .nil) .nil) 2 64)]) (fun a => a.2.2) (fun (j,w,ux) => j ≤ H.length ∧ (j = 0 ∧ w = .nils ∧ ux = [] ∨ 0 < j ∧ w = hdV H j 25 ∧ ux = uxH j)) (fun (j,_,_) => H.length - j) (0,.nils,[]) (kle rfl) rfl (by refine ⟨rfl,rfl,rfl,rfl,rfl,rfl,19,rfl,?_,?_⟩ <;> repeat' (first|exact trivial|exact rfl|exact wkr rfl|exact wko rfl|exact Nat.zero_le _|exact qcv _ _ (by decide)|exact qbf _ _ (by decide)|exact kle rfl|exact bdq|exact mxI rfl|exact mxS rfl|apply And.intro)) ⟨Nat.zero_le _,.inl ⟨rfl,rfl,rfl⟩⟩ ?_
   rintro ⟨j,w,ux⟩ ⟨hj,hw⟩ K hK
   have hj:j ≤ H.length :=hj
   have lV :=qav (zl (H.take j))
   refine Or.elim hw (fun hw => ?_) fun hw => ?_
   ·obtain ⟨rfl,rfl,rfl⟩ :=hw
    obtain rfl:K = 19 :=hK
    conv => whnf
    by_cases hj3:0 < H.length
    ·have hjr:0 < H.length :=by omega
     have hj1:IntKind.i64.wrap (Int.ofNat 0 + 1) = Int.ofNat (0 + 1) :=qaz (m :=0 + 1) (by omega)
     have pN :=(hH 0 hj3).2
     have gI :=qbl L (a :=N.length + 1) (n :=H.length) (i :=0) (by omega) hjr
     have e2 :=qef H 25 hj3
     repeat ((first|refine qak (nthP gI) ?_|refine qag (qae hjr) ?_|refine qaf (qae hjr) ?_|refine pkT (qae hjr) ?_|refine qaa (qae hjr) ?_|refine qal (qae hjr) ?_|refine qam (qae hjr) ?_|refine pkF (qae hjr) ?_|refine qab (qae hjr) ?_|refine qag (qaj hjr) ?_|refine qaf (qaj hjr) ?_|refine pkT (qaj hjr) ?_|refine qaa (qaj hjr) ?_|refine qac hC (pN) ?_|refine qad hS (by kernel_rfl) ?_);conv => whnf)
     exact ⟨(1,hdV H 1 25,uxH 1),⟨hj3,.inr ⟨Nat.zero_lt_one,rfl,rfl⟩⟩,by show H.length - 1 < H.length - 0;omega,kle rfl,(by refine ⟨rfl,rfl,rfl,rfl,rfl,rfl,28,rfl,?_,?_⟩ <;> repeat' (first|exact trivial|exact rfl|exact wkr rfl|exact wko rfl|exact Nat.zero_le _|exact ⟨_,rfl,WkV.int hj1⟩|exact e2|exact qcd e2|exact qcv _ _ (by decide)|exact qbf _ _ (by decide)|exact kle rfl|exact bdq|exact mxI rfl|exact mxS rfl|apply And.intro))⟩
    ·have hjE:H.length = 0 :=by omega
     refine qab (qbe hj3) ?_
     conv => whnf
     refine .inl ?_
     conv => whnf
     have eH:H = [] :=by exact List.eq_nil_of_length_eq_zero (by omega)
     have pT :=qdo (c :=16) (d :=25) hT (by omega) (by omega) (.inr ⟨rfl,eN⟩) (.inl ⟨rfl,eH⟩)
     repeat ((first|refine qac hC (pT) ?_|refine qac hC (qdw te s) ?_|refine qad hS (by kernel_rfl) ?_);conv => whnf)
     exact ⟨_,rfl,qsh (c :=16) (d :=25) (.inr ⟨rfl,eN⟩) (.inl ⟨rfl,eH⟩)⟩
   ·obtain ⟨hj2,rfl,rfl⟩ :=hw
    obtain rfl:K = 28 :=hK
    conv => whnf
    by_cases hj3:j < H.length
    ·have hjr:j < H.length :=by omega
     have hj1:IntKind.i64.wrap (Int.ofNat j + 1) = Int.ofNat (j + 1) :=qaz (m :=j + 1) (by omega)
     have pN :=(hH j hj3).2
     have gI :=qbl L (a :=N.length + 1) (n :=H.length) (i :=j) (by omega) hjr
     have d1:decide ((j + (0 + 1)) * 8 ≤ 140737488355328) = true :=decide_eq_true (by omega)
     have d2:decide (j + (0 + 1) ≤ 9223372036854775807) = true :=decide_eq_true (by omega)
     have d4:decide (j = j) = true :=decide_eq_true rfl
     have d5 :=qee H hj
     have e2 :=qfo H 25 hj3
     repeat ((first|refine qak (nthP gI) ?_|refine qag (qae hjr) ?_|refine qaf (qae hjr) ?_|refine pkT (qae hjr) ?_|refine qaa (qae hjr) ?_|refine qal (qae hjr) ?_|refine qam (qae hjr) ?_|refine pkF (qae hjr) ?_|refine qab (qae hjr) ?_|refine qag (qaj hjr) ?_|refine qaf (qaj hjr) ?_|refine pkT (qaj hjr) ?_|refine qaa (qaj hjr) ?_|refine qag d1 ?_|refine qaf d1 ?_|refine pkT d1 ?_|refine qaa d1 ?_|refine qag d2 ?_|refine qaf d2 ?_|refine pkT d2 ?_|refine qaa d2 ?_|refine qag d4 ?_|refine qaf d4 ?_|refine pkT d4 ?_|refine qaa d4 ?_|refine qag d5 ?_|refine qaf d5 ?_|refine pkT d5 ?_|refine qaa d5 ?_|refine qal d5 ?_|refine qam d5 ?_|refine pkF d5 ?_|refine qab d5 ?_|refine qac hC (pN) ?_|refine qad hS (by kernel_rfl) ?_);conv => whnf)
     exact ⟨(j + 1,hdV H (j + 1) 25,uxH (j + 1)),⟨hj3,.inr ⟨Nat.succ_pos _,rfl,rfl⟩⟩,by show H.length - (j + 1) < H.length - j;omega,kle rfl,(by refine ⟨rfl,rfl,rfl,rfl,rfl,rfl,28,rfl,?_,?_⟩ <;> repeat' (first|exact trivial|exact rfl|exact wkr rfl|exact wko rfl|exact Nat.zero_le _|exact ⟨_,rfl,WkV.int hj1⟩|exact e2|exact qcd e2|exact qcv _ _ (by decide)|exact qbf _ _ (by decide)|exact kle rfl|exact bdq|exact mxI rfl|exact mxS rfl|apply And.intro))⟩
    ·have hjE:H.length = j :=by omega
     subst hjE
     refine qab (qbe hj3) ?_
     conv => whnf
     refine .inl ?_
     conv => whnf
     have eH:H ≠ [] :=by intro z;rw [z] at hj2;exact absurd hj2 (Nat.not_lt_zero _)
     have pT :=qdo (c :=16) (d :=25) hT (by omega) (by omega) (.inr ⟨rfl,eN⟩) (.inr ⟨rfl,eH⟩)
     repeat ((first|refine qac hC (pT) ?_|refine qac hC (qdw te s) ?_|refine qad hS (by kernel_rfl) ?_);conv => whnf)
     exact ⟨_,rfl,qsh (c :=16) (d :=25) (.inr ⟨rfl,eN⟩) (.inr ⟨rfl,eH⟩)⟩
theorem qqi {s:List UInt8} {N:List Lk} {H:List Nat} (hs:s.length ≤ 300) (h0:pM (gB (spl 10 s) 0) N.length) (hm:N.length + H.length + 3 = (spl 10 s).length) (hN:∀ i,i < N.length → pL (gB (spl 10 s) (i + 1)) (gN N i)) (hH:∀ i,i < H.length → pH (gB (spl 10 s) (i + (N.length + 1))) (gn H i)) (he:prtB N H ≠ s):qci prog 95 [.str s] (noP s) :=by
 have pS :=qbn s 10 (by omega)
 have lS :=qa1 (spl 10 s)
 have hl :=qfd 10 s
 obtain ⟨L,hL⟩ : ∃ L,L = spl 10 s :=⟨_,rfl⟩
 rw [← hL] at h0 hm hN hH pS lS hl
 have p0 :=h0.2
 have hn :=h0.1
 have ir:inR 0 L.length = true :=qaj (i :=0) (by omega)
 have n0:nth (stA L) (0:Int).toNat = some (.str (gB L 0)) :=qa9 (l :=L) (i :=0) (by omega)
 have w3:IntKind.i64.wrap (Int.ofNat N.length + 3) = Int.ofNat (N.length + 3) :=qaz (m :=N.length + 3) (by omega)
 have w1:IntKind.i64.wrap (Int.ofNat N.length + 1) = Int.ofNat (N.length + 1) :=qaz (m :=N.length + 1) (by omega)
 have g3:decide ((L.length:Int) ≥ IntKind.i64.wrap (Int.ofNat N.length + 3)) = true :=decide_eq_true (by rw [w3];simp only [Int.ofNat_eq_natCast];omega)
 have w2:IntKind.i64.wrap ((L.length:Int) - 2) = Int.ofNat (N.length + 1 + H.length) :=by rw [← hm];exact (qel (by omega) (by omega)).trans (by simp only [Int.ofNat_eq_natCast];omega)
 have hT :=qq0 hN hH
 have te:(prtB N H == s) = false :=beq_eq_false_iff_ne.2 he
 refine qbj hE rfl (by repeat' first|exact trivial|assumption|exact qah _|exact fun _ h => nomatch h|apply And.intro) (by simp [noP,Live,Lives]) fun S q pc hS hq hC hE => ?_
 conv => whnf
 repeat ((first|refine qak (nthP n0) ?_|refine qak (qij (e :=9) (inf :=t9) (L :=L) (a :=1) (n :=N.length) (by kernel_rfl) (by kernel_rfl) (by kernel_rfl) rfl (w1.trans (by rw [Nat.add_comm])) (by omega)) ?_|refine qag ir ?_|refine qaf ir ?_|refine pkT ir ?_|refine qaa ir ?_|refine qac hC (pS) ?_|refine qac hC (p0) ?_|refine qac hC (qdw g3 s) ?_|refine qad hS (by kernel_rfl) ?_);conv => whnf)
 have lT :=qa1 ((L.drop 1).take N.length)
 refine qax hE hS (A :=Nat × AV × List AObj) [0,2,3,4,5,30,31] (fun (i,_,_) => [(32,nv i)]) (fun (_,v,_) => [(1,.cells (.node v (.node .nils .nil .nil) .nil) 2 64)]) (fun a => a.2.2) (fun (i,v,ux) => i ≤ N.length ∧ (i = 0 ∧ v = .nils ∧ ux = [] ∨ 0 < i ∧ v = lkVb N i 16 ∧ ux = uxL i)) (fun (i,_,_) => N.length - i) (0,.nils,[]) (kle rfl) rfl (by refine ⟨rfl,rfl,rfl,rfl,rfl,rfl,2,rfl,?_,?_⟩ <;> repeat' (first|exact trivial|exact rfl|exact wkr rfl|exact wko rfl|exact Nat.zero_le _|exact qbf _ _ (by decide)|exact kle rfl|exact bdq|exact mxI rfl|exact mxS rfl|apply And.intro)) ⟨Nat.zero_le _,.inl ⟨rfl,rfl,rfl⟩⟩ ?_
 rintro ⟨i,v,ux⟩ ⟨hi,hv⟩ K hK
 have hi:i ≤ N.length :=hi
 have lK :=qa5 (cL (N.take i))
 refine Or.elim hv (fun hv => ?_) fun hv => ?_
 ·obtain ⟨rfl,rfl,rfl⟩ :=hv
  obtain rfl:K = 2 :=hK
  conv => whnf
  by_cases hi2:0 < N.length
  ·have hir:0 < N.length :=by omega
   have hi1:IntKind.i64.wrap (Int.ofNat 0 + 1) = Int.ofNat (0 + 1) :=qaz (m :=0 + 1) (by omega)
   have pN :=(hN 0 hi2).2
   have gI :=qbl L (a :=1) (n :=N.length) (i :=0) (by omega) hir
   have e2 :=qg5 N 16 hi2
   repeat ((first|refine qak (nthP gI) ?_|refine qag (qae hir) ?_|refine qaf (qae hir) ?_|refine pkT (qae hir) ?_|refine qaa (qae hir) ?_|refine qal (qae hir) ?_|refine qam (qae hir) ?_|refine pkF (qae hir) ?_|refine qab (qae hir) ?_|refine qag (qaj hir) ?_|refine qaf (qaj hir) ?_|refine pkT (qaj hir) ?_|refine qaa (qaj hir) ?_|refine qac hC (pN) ?_|refine qad hS (by kernel_rfl) ?_);conv => whnf)
   exact ⟨(1,lkVb N 1 16,uxL 1),⟨hi2,.inr ⟨Nat.zero_lt_one,rfl,rfl⟩⟩,by show N.length - 1 < N.length - 0;omega,kle rfl,(by refine ⟨rfl,rfl,rfl,rfl,rfl,rfl,19,rfl,?_,?_⟩ <;> repeat' (first|exact trivial|exact rfl|exact wkr rfl|exact wko rfl|exact Nat.zero_le _|exact ⟨_,rfl,WkV.int hi1⟩|exact qcy e2|exact qbf _ _ (by decide)|exact kle rfl|exact bdq|exact mxI rfl|exact mxS rfl|apply And.intro))⟩
  ·have hiE:N.length = 0 :=by omega
   refine qab (qbe hi2) ?_
   conv => whnf
   refine .inl ?_
   conv => whnf
   have eN:N = [] :=by exact List.eq_nil_of_length_eq_zero (by omega)
   repeat ((first|refine qak (qij (e :=9) (inf :=t9) (L :=L) (a :=N.length + 1) (n :=H.length) (by kernel_rfl) (by kernel_rfl) (by kernel_rfl) w1 w2 (by omega)) ?_|refine qad hS (by kernel_rfl) ?_);conv => whnf)
   have lU :=qa1 ((L.drop (N.length + 1)).take H.length)
   have lW :=qa5 (cL (N.take N.length))
   refine qax hE hS (A :=Nat × AV × List AObj) [0,2,3,4,5,61,62] (fun (j,_,_) => [(63,nv j)]) (fun (_,w,_) => [(1,.cells (.node .nils (.node w .nil .nil) .nil) 2 64)]) (fun a => a.2.2) (fun (j,w,ux) => j ≤ H.length ∧ (j = 0 ∧ w = .nils ∧ ux = [] ∨ 0 < j ∧ w = hdV H j 8 ∧ ux = uxH j)) (fun (j,_,_) => H.length - j) (0,.nils,[]) (kle rfl) rfl (by refine ⟨rfl,rfl,rfl,rfl,rfl,rfl,2,rfl,?_,?_⟩ <;> repeat' (first|exact trivial|exact rfl|exact wkr rfl|exact wko rfl|exact Nat.zero_le _|exact qcv _ _ (by decide)|exact qbf _ _ (by decide)|exact kle rfl|exact bdq|exact mxI rfl|exact mxS rfl|apply And.intro)) ⟨Nat.zero_le _,.inl ⟨rfl,rfl,rfl⟩⟩ ?_
   rintro ⟨j,w,ux⟩ ⟨hj,hw⟩ K hK
   have hj:j ≤ H.length :=hj
   have lV :=qav (zl (H.take j))
   refine Or.elim hw (fun hw => ?_) fun hw => ?_
   ·obtain ⟨rfl,rfl,rfl⟩ :=hw
    obtain rfl:K = 2 :=hK
    conv => whnf
    by_cases hj3:0 < H.length
    ·have hjr:0 < H.length :=by omega
     have hj1:IntKind.i64.wrap (Int.ofNat 0 + 1) = Int.ofNat (0 + 1) :=qaz (m :=0 + 1) (by omega)
     have pN :=(hH 0 hj3).2
     have gI :=qbl L (a :=N.length + 1) (n :=H.length) (i :=0) (by omega) hjr
     have e2 :=qef H 8 hj3
     repeat ((first|refine qak (nthP gI) ?_|refine qag (qae hjr) ?_|refine qaf (qae hjr) ?_|refine pkT (qae hjr) ?_|refine qaa (qae hjr) ?_|refine qal (qae hjr) ?_|refine qam (qae hjr) ?_|refine pkF (qae hjr) ?_|refine qab (qae hjr) ?_|refine qag (qaj hjr) ?_|refine qaf (qaj hjr) ?_|refine pkT (qaj hjr) ?_|refine qaa (qaj hjr) ?_|refine qac hC (pN) ?_|refine qad hS (by kernel_rfl) ?_);conv => whnf)
     exact ⟨(1,hdV H 1 8,uxH 1),⟨hj3,.inr ⟨Nat.zero_lt_one,rfl,rfl⟩⟩,by show H.length - 1 < H.length - 0;omega,kle rfl,(by refine ⟨rfl,rfl,rfl,rfl,rfl,rfl,11,rfl,?_,?_⟩ <;> repeat' (first|exact trivial|exact rfl|exact wkr rfl|exact wko rfl|exact Nat.zero_le _|exact ⟨_,rfl,WkV.int hj1⟩|exact e2|exact qcd e2|exact qcv _ _ (by decide)|exact qbf _ _ (by decide)|exact kle rfl|exact bdq|exact mxI rfl|exact mxS rfl|apply And.intro))⟩
    ·have hjE:H.length = 0 :=by omega
     refine qab (qbe hj3) ?_
     conv => whnf
     refine .inl ?_
     conv => whnf
     have eH:H = [] :=by exact List.eq_nil_of_length_eq_zero (by omega)
     have pT :=qdo (c :=16) (d :=8) hT (by omega) (by omega) (.inl ⟨rfl,eN⟩) (.inl ⟨rfl,eH⟩)
     repeat ((first|refine qac hC (pT) ?_|refine qad hS (by kernel_rfl) ?_);conv => whnf)
     refine qau hC ?_
     conv => whnf
     refine qa2 hS (qd9 te s) ?_
     conv => whnf
   ·obtain ⟨hj2,rfl,rfl⟩ :=hw
    obtain rfl:K = 11 :=hK
    conv => whnf
    by_cases hj3:j < H.length
    ·have hjr:j < H.length :=by omega
     have hj1:IntKind.i64.wrap (Int.ofNat j + 1) = Int.ofNat (j + 1) :=qaz (m :=j + 1) (by omega)
     have pN :=(hH j hj3).2
     have gI :=qbl L (a :=N.length + 1) (n :=H.length) (i :=j) (by omega) hjr
     have d1:decide ((j + (0 + 1)) * 8 ≤ 140737488355328) = true :=decide_eq_true (by omega)
     have d2:decide (j + (0 + 1) ≤ 9223372036854775807) = true :=decide_eq_true (by omega)
     have d4:decide (j = j) = true :=decide_eq_true rfl
     have d5 :=qee H hj
     have e2 :=qfo H 8 hj3
     repeat ((first|refine qak (nthP gI) ?_|refine qag (qae hjr) ?_|refine qaf (qae hjr) ?_|refine pkT (qae hjr) ?_|refine qaa (qae hjr) ?_|refine qal (qae hjr) ?_|refine qam (qae hjr) ?_|refine pkF (qae hjr) ?_|refine qab (qae hjr) ?_|refine qag (qaj hjr) ?_|refine qaf (qaj hjr) ?_|refine pkT (qaj hjr) ?_|refine qaa (qaj hjr) ?_|refine qag d1 ?_|refine qaf d1 ?_|refine pkT d1 ?_|refine qaa d1 ?_|refine qag d2 ?_|refine qaf d2 ?_|refine pkT d2 ?_|refine qaa d2 ?_|refine qag d4 ?_|refine qaf d4 ?_|refine pkT d4 ?_|refine qaa d4 ?_|refine qag d5 ?_|refine qaf d5 ?_|refine pkT d5 ?_|refine qaa d5 ?_|refine qal d5 ?_|refine qam d5 ?_|refine pkF d5 ?_|refine qab d5 ?_|refine qac hC (pN) ?_|refine qad hS (by kernel_rfl) ?_);conv => whnf)
     exact ⟨(j + 1,hdV H (j + 1) 8,uxH (j + 1)),⟨hj3,.inr ⟨Nat.succ_pos _,rfl,rfl⟩⟩,by show H.length - (j + 1) < H.length - j;omega,kle rfl,(by refine ⟨rfl,rfl,rfl,rfl,rfl,rfl,11,rfl,?_,?_⟩ <;> repeat' (first|exact trivial|exact rfl|exact wkr rfl|exact wko rfl|exact Nat.zero_le _|exact ⟨_,rfl,WkV.int hj1⟩|exact e2|exact qcd e2|exact qcv _ _ (by decide)|exact qbf _ _ (by decide)|exact kle rfl|exact bdq|exact mxI rfl|exact mxS rfl|apply And.intro))⟩
    ·have hjE:H.length = j :=by omega
     subst hjE
     refine qab (qbe hj3) ?_
     conv => whnf
     refine .inl ?_
     conv => whnf
     have eH:H ≠ [] :=by intro z;rw [z] at hj2;exact absurd hj2 (Nat.not_lt_zero _)
     have pT :=qdo (c :=16) (d :=8) hT (by omega) (by omega) (.inl ⟨rfl,eN⟩) (.inr ⟨rfl,eH⟩)
     repeat ((first|refine qac hC (pT) ?_|refine qad hS (by kernel_rfl) ?_);conv => whnf)
     refine qau hC ?_
     conv => whnf
     refine qa2 hS (qd9 te s) ?_
     conv => whnf
 ·obtain ⟨hi9,rfl,rfl⟩ :=hv
  obtain rfl:K = 19 :=hK
  conv => whnf
  by_cases hi2:i < N.length
  ·have hir:i < N.length :=by omega
   have hi1:IntKind.i64.wrap (Int.ofNat i + 1) = Int.ofNat (i + 1) :=qaz (m :=i + 1) (by omega)
   have pN :=(hN i hi2).2
   have gI :=qbl L (a :=1) (n :=N.length) (i :=i) (by omega) hir
   have d1:decide ((i + (0 + 1)) * 24 ≤ 140737488355328) = true :=decide_eq_true (by omega)
   have d2:decide (i + (0 + 1) ≤ 9223372036854775807) = true :=decide_eq_true (by omega)
   have d4:decide (i = i) = true :=decide_eq_true rfl
   have d5 :=qg8 N hi
   have e2 :=qj4 N 16 hi2
   repeat ((first|refine qak (nthP gI) ?_|refine qag (qae hir) ?_|refine qaf (qae hir) ?_|refine pkT (qae hir) ?_|refine qaa (qae hir) ?_|refine qal (qae hir) ?_|refine qam (qae hir) ?_|refine pkF (qae hir) ?_|refine qab (qae hir) ?_|refine qag (qaj hir) ?_|refine qaf (qaj hir) ?_|refine pkT (qaj hir) ?_|refine qaa (qaj hir) ?_|refine qag d1 ?_|refine qaf d1 ?_|refine pkT d1 ?_|refine qaa d1 ?_|refine qag d2 ?_|refine qaf d2 ?_|refine pkT d2 ?_|refine qaa d2 ?_|refine qag d4 ?_|refine qaf d4 ?_|refine pkT d4 ?_|refine qaa d4 ?_|refine qag d5 ?_|refine qaf d5 ?_|refine pkT d5 ?_|refine qaa d5 ?_|refine qal d5 ?_|refine qam d5 ?_|refine pkF d5 ?_|refine qab d5 ?_|refine qac hC (pN) ?_|refine qad hS (by kernel_rfl) ?_);conv => whnf)
   exact ⟨(i + 1,lkVb N (i + 1) 16,uxL (i + 1)),⟨hi2,.inr ⟨Nat.succ_pos _,rfl,rfl⟩⟩,by show N.length - (i + 1) < N.length - i;omega,kle rfl,(by refine ⟨rfl,rfl,rfl,rfl,rfl,rfl,19,rfl,?_,?_⟩ <;> repeat' (first|exact trivial|exact rfl|exact wkr rfl|exact wko rfl|exact Nat.zero_le _|exact ⟨_,rfl,WkV.int hi1⟩|exact qcy e2|exact qbf _ _ (by decide)|exact kle rfl|exact bdq|exact mxI rfl|exact mxS rfl|apply And.intro))⟩
  ·have hiE:N.length = i :=by omega
   subst hiE
   refine qab (qbe hi2) ?_
   conv => whnf
   refine .inl ?_
   conv => whnf
   have eN:N ≠ [] :=by intro z;rw [z] at hi9;exact absurd hi9 (Nat.not_lt_zero _)
   repeat ((first|refine qak (qij (e :=9) (inf :=t9) (L :=L) (a :=N.length + 1) (n :=H.length) (by kernel_rfl) (by kernel_rfl) (by kernel_rfl) w1 w2 (by omega)) ?_|refine qad hS (by kernel_rfl) ?_);conv => whnf)
   have lU :=qa1 ((L.drop (N.length + 1)).take H.length)
   have lW :=qa5 (cL (N.take N.length))
   refine qax hE hS (A :=Nat × AV × List AObj) [0,2,3,4,5,61,62] (fun (j,_,_) => [(63,nv j)]) (fun (_,w,_) => [(1,.cells (.node (lkVb N N.length 16) (.node w .nil .nil) .nil) 2 64)]) (fun a => a.2.2) (fun (j,w,ux) => j ≤ H.length ∧ (j = 0 ∧ w = .nils ∧ ux = [] ∨ 0 < j ∧ w = hdV H j 25 ∧ ux = uxH j)) (fun (j,_,_) => H.length - j) (0,.nils,[]) (kle rfl) rfl (by refine ⟨rfl,rfl,rfl,rfl,rfl,rfl,19,rfl,?_,?_⟩ <;> repeat' (first|exact trivial|exact rfl|exact wkr rfl|exact wko rfl|exact Nat.zero_le _|exact qcv _ _ (by decide)|exact qbf _ _ (by decide)|exact kle rfl|exact bdq|exact mxI rfl|exact mxS rfl|apply And.intro)) ⟨Nat.zero_le _,.inl ⟨rfl,rfl,rfl⟩⟩ ?_
   rintro ⟨j,w,ux⟩ ⟨hj,hw⟩ K hK
   have hj:j ≤ H.length :=hj
   have lV :=qav (zl (H.take j))
   refine Or.elim hw (fun hw => ?_) fun hw => ?_
   ·obtain ⟨rfl,rfl,rfl⟩ :=hw
    obtain rfl:K = 19 :=hK
    conv => whnf
    by_cases hj3:0 < H.length
    ·have hjr:0 < H.length :=by omega
     have hj1:IntKind.i64.wrap (Int.ofNat 0 + 1) = Int.ofNat (0 + 1) :=qaz (m :=0 + 1) (by omega)
     have pN :=(hH 0 hj3).2
     have gI :=qbl L (a :=N.length + 1) (n :=H.length) (i :=0) (by omega) hjr
     have e2 :=qef H 25 hj3
     repeat ((first|refine qak (nthP gI) ?_|refine qag (qae hjr) ?_|refine qaf (qae hjr) ?_|refine pkT (qae hjr) ?_|refine qaa (qae hjr) ?_|refine qal (qae hjr) ?_|refine qam (qae hjr) ?_|refine pkF (qae hjr) ?_|refine qab (qae hjr) ?_|refine qag (qaj hjr) ?_|refine qaf (qaj hjr) ?_|refine pkT (qaj hjr) ?_|refine qaa (qaj hjr) ?_|refine qac hC (pN) ?_|refine qad hS (by kernel_rfl) ?_);conv => whnf)
     exact ⟨(1,hdV H 1 25,uxH 1),⟨hj3,.inr ⟨Nat.zero_lt_one,rfl,rfl⟩⟩,by show H.length - 1 < H.length - 0;omega,kle rfl,(by refine ⟨rfl,rfl,rfl,rfl,rfl,rfl,28,rfl,?_,?_⟩ <;> repeat' (first|exact trivial|exact rfl|exact wkr rfl|exact wko rfl|exact Nat.zero_le _|exact ⟨_,rfl,WkV.int hj1⟩|exact e2|exact qcd e2|exact qcv _ _ (by decide)|exact qbf _ _ (by decide)|exact kle rfl|exact bdq|exact mxI rfl|exact mxS rfl|apply And.intro))⟩
    ·have hjE:H.length = 0 :=by omega
     refine qab (qbe hj3) ?_
     conv => whnf
     refine .inl ?_
     conv => whnf
     have eH:H = [] :=by exact List.eq_nil_of_length_eq_zero (by omega)
     have pT :=qdo (c :=16) (d :=25) hT (by omega) (by omega) (.inr ⟨rfl,eN⟩) (.inl ⟨rfl,eH⟩)
     repeat ((first|refine qac hC (pT) ?_|refine qad hS (by kernel_rfl) ?_);conv => whnf)
     refine qau hC ?_
     conv => whnf
     refine qa2 hS (qd9 te s) ?_
     conv => whnf
   ·obtain ⟨hj2,rfl,rfl⟩ :=hw
    obtain rfl:K = 28 :=hK
    conv => whnf
    by_cases hj3:j < H.length
    ·have hjr:j < H.length :=by omega
     have hj1:IntKind.i64.wrap (Int.ofNat j + 1) = Int.ofNat (j + 1) :=qaz (m :=j + 1) (by omega)
     have pN :=(hH j hj3).2
     have gI :=qbl L (a :=N.length + 1) (n :=H.length) (i :=j) (by omega) hjr
     have d1:decide ((j + (0 + 1)) * 8 ≤ 140737488355328) = true :=decide_eq_true (by omega)
     have d2:decide (j + (0 + 1) ≤ 9223372036854775807) = true :=decide_eq_true (by omega)
     have d4:decide (j = j) = true :=decide_eq_true rfl
     have d5 :=qee H hj
     have e2 :=qfo H 25 hj3
     repeat ((first|refine qak (nthP gI) ?_|refine qag (qae hjr) ?_|refine qaf (qae hjr) ?_|refine pkT (qae hjr) ?_|refine qaa (qae hjr) ?_|refine qal (qae hjr) ?_|refine qam (qae hjr) ?_|refine pkF (qae hjr) ?_|refine qab (qae hjr) ?_|refine qag (qaj hjr) ?_|refine qaf (qaj hjr) ?_|refine pkT (qaj hjr) ?_|refine qaa (qaj hjr) ?_|refine qag d1 ?_|refine qaf d1 ?_|refine pkT d1 ?_|refine qaa d1 ?_|refine qag d2 ?_|refine qaf d2 ?_|refine pkT d2 ?_|refine qaa d2 ?_|refine qag d4 ?_|refine qaf d4 ?_|refine pkT d4 ?_|refine qaa d4 ?_|refine qag d5 ?_|refine qaf d5 ?_|refine pkT d5 ?_|refine qaa d5 ?_|refine qal d5 ?_|refine qam d5 ?_|refine pkF d5 ?_|refine qab d5 ?_|refine qac hC (pN) ?_|refine qad hS (by kernel_rfl) ?_);conv => whnf)
     exact ⟨(j + 1,hdV H (j + 1) 25,uxH (j + 1)),⟨hj3,.inr ⟨Nat.succ_pos _,rfl,rfl⟩⟩,by show H.length - (j + 1) < H.length - j;omega,kle rfl,(by refine ⟨rfl,rfl,rfl,rfl,rfl,rfl,28,rfl,?_,?_⟩ <;> repeat' (first|exact trivial|exact rfl|exact wkr rfl|exact wko rfl|exact Nat.zero_le _|exact ⟨_,rfl,WkV.int hj1⟩|exact e2|exact qcd e2|exact qcv _ _ (by decide)|exact qbf _ _ (by decide)|exact kle rfl|exact bdq|exact mxI rfl|exact mxS rfl|apply And.intro))⟩
    ·have hjE:H.length = j :=by omega
     subst hjE
     refine qab (qbe hj3) ?_
     conv => whnf
     refine .inl ?_
     conv => whnf
     have eH:H ≠ [] :=by intro z;rw [z] at hj2;exact absurd hj2 (Nat.not_lt_zero _)
     have pT :=qdo (c :=16) (d :=25) hT (by omega) (by omega) (.inr ⟨rfl,eN⟩) (.inr ⟨rfl,eH⟩)
     repeat ((first|refine qac hC (pT) ?_|refine qad hS (by kernel_rfl) ?_);conv => whnf)
     refine qau hC ?_
     conv => whnf
     refine qa2 hS (qd9 te s) ?_
     conv => whnf
theorem qs4 {s why:List UInt8} {N:List Lk} {m:Nat} (hs:s.length ≤ 300) (h0:pM (gB (spl 10 s) 0) m) (hm:m + 3 ≤ (spl 10 s).length) (hN:∀ i,i < N.length → pL (gB (spl 10 s) (i + 1)) (gN N i)) (hz:N.length < m) (pz:qci prog 143 [.str (gB (spl 10 s) (N.length + 1)),iv 1,iv 3] (noP why)):qci prog 95 [.str s] (noP why) :=by
 have pS :=qbn s 10 (by omega)
 have lS :=qa1 (spl 10 s)
 have hl :=qfd 10 s
 obtain ⟨L,hL⟩ : ∃ L,L = spl 10 s :=⟨_,rfl⟩
 rw [← hL] at h0 hm hN pz pS lS hl
 have p0 :=h0.2
 have hn :=h0.1
 have ir:inR 0 L.length = true :=qaj (i :=0) (by omega)
 have n0:nth (stA L) (0:Int).toNat = some (.str (gB L 0)) :=qa9 (l :=L) (i :=0) (by omega)
 have w3:IntKind.i64.wrap (Int.ofNat m + 3) = Int.ofNat (m + 3) :=qaz (m :=m + 3) (by omega)
 have w1:IntKind.i64.wrap (Int.ofNat m + 1) = Int.ofNat (m + 1) :=qaz (m :=m + 1) (by omega)
 have g3:decide ((L.length:Int) ≥ IntKind.i64.wrap (Int.ofNat m + 3)) = true :=decide_eq_true (by rw [w3];simp only [Int.ofNat_eq_natCast];omega)
 refine qbj hE rfl (by repeat' first|exact trivial|assumption|exact qah _|exact fun _ h => nomatch h|apply And.intro) (by simp [noP,Live,Lives]) fun S q pc hS hq hC hE => ?_
 conv => whnf
 repeat ((first|refine qak (nthP n0) ?_|refine qak (qij (e :=9) (inf :=t9) (L :=L) (a :=1) (n :=m) (by kernel_rfl) (by kernel_rfl) (by kernel_rfl) rfl (w1.trans (by rw [Nat.add_comm])) (by omega)) ?_|refine qag ir ?_|refine qaf ir ?_|refine pkT ir ?_|refine qaa ir ?_|refine qac hC (pS) ?_|refine qac hC (p0) ?_|refine qac hC (qdw g3 s) ?_|refine qad hS (by kernel_rfl) ?_);conv => whnf)
 have lT :=qa1 ((L.drop 1).take m)
 refine qax hE hS (A :=Nat × AV × List AObj) [0,2,3,4,5,30,31] (fun (i,_,_) => [(32,nv i)]) (fun (_,v,_) => [(1,.cells (.node v (.node .nils .nil .nil) .nil) 2 64)]) (fun a => a.2.2) (fun (i,v,ux) => i ≤ N.length ∧ (i = 0 ∧ v = .nils ∧ ux = [] ∨ 0 < i ∧ v = lkVb N i 16 ∧ ux = uxL i)) (fun (i,_,_) => N.length - i) (0,.nils,[]) (kle rfl) rfl (by refine ⟨rfl,rfl,rfl,rfl,rfl,rfl,2,rfl,?_,?_⟩ <;> repeat' (first|exact trivial|exact rfl|exact wkr rfl|exact wko rfl|exact Nat.zero_le _|exact qbf _ _ (by decide)|exact kle rfl|exact bdq|exact mxI rfl|exact mxS rfl|apply And.intro)) ⟨Nat.zero_le _,.inl ⟨rfl,rfl,rfl⟩⟩ ?_
 rintro ⟨i,v,ux⟩ ⟨hi,hv⟩ K hK
 have hi:i ≤ N.length :=hi
 have lK :=qa5 (cL (N.take i))
 refine Or.elim hv (fun hv => ?_) fun hv => ?_
 ·obtain ⟨rfl,rfl,rfl⟩ :=hv
  obtain rfl:K = 2 :=hK
  conv => whnf
  by_cases hi2:0 < N.length
  ·have hir:0 < m :=by omega
   have hi1:IntKind.i64.wrap (Int.ofNat 0 + 1) = Int.ofNat (0 + 1) :=qaz (m :=0 + 1) (by omega)
   have pN :=(hN 0 hi2).2
   have gI :=qbl L (a :=1) (n :=m) (i :=0) (by omega) hir
   have e2 :=qg5 N 16 hi2
   repeat ((first|refine qak (nthP gI) ?_|refine qag (qae hir) ?_|refine qaf (qae hir) ?_|refine pkT (qae hir) ?_|refine qaa (qae hir) ?_|refine qal (qae hir) ?_|refine qam (qae hir) ?_|refine pkF (qae hir) ?_|refine qab (qae hir) ?_|refine qag (qaj hir) ?_|refine qaf (qaj hir) ?_|refine pkT (qaj hir) ?_|refine qaa (qaj hir) ?_|refine qac hC (pN) ?_|refine qad hS (by kernel_rfl) ?_);conv => whnf)
   exact ⟨(1,lkVb N 1 16,uxL 1),⟨hi2,.inr ⟨Nat.zero_lt_one,rfl,rfl⟩⟩,by show N.length - 1 < N.length - 0;omega,kle rfl,(by refine ⟨rfl,rfl,rfl,rfl,rfl,rfl,19,rfl,?_,?_⟩ <;> repeat' (first|exact trivial|exact rfl|exact wkr rfl|exact wko rfl|exact Nat.zero_le _|exact ⟨_,rfl,WkV.int hi1⟩|exact qcy e2|exact qbf _ _ (by decide)|exact kle rfl|exact bdq|exact mxI rfl|exact mxS rfl|apply And.intro))⟩
  ·have hiE:N.length = 0 :=by omega
   rw [hiE] at hz pz
   have gI :=qbl L (a :=1) (n :=m) (i :=0) (by omega) hz
   repeat ((first|refine qak (nthP gI) ?_|refine qag (qae hz) ?_|refine qaf (qae hz) ?_|refine pkT (qae hz) ?_|refine qaa (qae hz) ?_|refine qal (qae hz) ?_|refine qam (qae hz) ?_|refine pkF (qae hz) ?_|refine qab (qae hz) ?_|refine qag (qaj hz) ?_|refine qaf (qaj hz) ?_|refine pkT (qaj hz) ?_|refine qaa (qaj hz) ?_|refine qad hS (by kernel_rfl) ?_);conv => whnf)
   refine qau hC ?_
   conv => whnf
   refine qa2 hS (pz) ?_
   conv => whnf
 ·obtain ⟨hi9,rfl,rfl⟩ :=hv
  obtain rfl:K = 19 :=hK
  conv => whnf
  by_cases hi2:i < N.length
  ·have hir:i < m :=by omega
   have hi1:IntKind.i64.wrap (Int.ofNat i + 1) = Int.ofNat (i + 1) :=qaz (m :=i + 1) (by omega)
   have pN :=(hN i hi2).2
   have gI :=qbl L (a :=1) (n :=m) (i :=i) (by omega) hir
   have d1:decide ((i + (0 + 1)) * 24 ≤ 140737488355328) = true :=decide_eq_true (by omega)
   have d2:decide (i + (0 + 1) ≤ 9223372036854775807) = true :=decide_eq_true (by omega)
   have d4:decide (i = i) = true :=decide_eq_true rfl
   have d5 :=qg8 N hi
   have e2 :=qj4 N 16 hi2
   repeat ((first|refine qak (nthP gI) ?_|refine qag (qae hir) ?_|refine qaf (qae hir) ?_|refine pkT (qae hir) ?_|refine qaa (qae hir) ?_|refine qal (qae hir) ?_|refine qam (qae hir) ?_|refine pkF (qae hir) ?_|refine qab (qae hir) ?_|refine qag (qaj hir) ?_|refine qaf (qaj hir) ?_|refine pkT (qaj hir) ?_|refine qaa (qaj hir) ?_|refine qag d1 ?_|refine qaf d1 ?_|refine pkT d1 ?_|refine qaa d1 ?_|refine qag d2 ?_|refine qaf d2 ?_|refine pkT d2 ?_|refine qaa d2 ?_|refine qag d4 ?_|refine qaf d4 ?_|refine pkT d4 ?_|refine qaa d4 ?_|refine qag d5 ?_|refine qaf d5 ?_|refine pkT d5 ?_|refine qaa d5 ?_|refine qal d5 ?_|refine qam d5 ?_|refine pkF d5 ?_|refine qab d5 ?_|refine qac hC (pN) ?_|refine qad hS (by kernel_rfl) ?_);conv => whnf)
   exact ⟨(i + 1,lkVb N (i + 1) 16,uxL (i + 1)),⟨hi2,.inr ⟨Nat.succ_pos _,rfl,rfl⟩⟩,by show N.length - (i + 1) < N.length - i;omega,kle rfl,(by refine ⟨rfl,rfl,rfl,rfl,rfl,rfl,19,rfl,?_,?_⟩ <;> repeat' (first|exact trivial|exact rfl|exact wkr rfl|exact wko rfl|exact Nat.zero_le _|exact ⟨_,rfl,WkV.int hi1⟩|exact qcy e2|exact qbf _ _ (by decide)|exact kle rfl|exact bdq|exact mxI rfl|exact mxS rfl|apply And.intro))⟩
  ·have hiE:N.length = i :=by omega
   rw [hiE] at hz pz
   have gI :=qbl L (a :=1) (n :=m) (i :=i) (by omega) hz
   repeat ((first|refine qak (nthP gI) ?_|refine qag (qae hz) ?_|refine qaf (qae hz) ?_|refine pkT (qae hz) ?_|refine qaa (qae hz) ?_|refine qal (qae hz) ?_|refine qam (qae hz) ?_|refine pkF (qae hz) ?_|refine qab (qae hz) ?_|refine qag (qaj hz) ?_|refine qaf (qaj hz) ?_|refine pkT (qaj hz) ?_|refine qaa (qaj hz) ?_|refine qad hS (by kernel_rfl) ?_);conv => whnf)
   refine qau hC ?_
   conv => whnf
   refine qa2 hS (pz) ?_
   conv => whnf
theorem qs5 {s why:List UInt8} {N:List Lk} {H:List Nat} {m:Nat} (hs:s.length ≤ 300) (h0:pM (gB (spl 10 s) 0) N.length) (hm:N.length + m + 3 = (spl 10 s).length) (hN:∀ i,i < N.length → pL (gB (spl 10 s) (i + 1)) (gN N i)) (hH:∀ i,i < H.length → pH (gB (spl 10 s) (i + (N.length + 1))) (gn H i)) (hz:H.length < m) (pz:qci prog 143 [.str (gB (spl 10 s) (H.length + (N.length + 1))),iv 2,iv 1] (noP why)):qci prog 95 [.str s] (noP why) :=by
 have pS :=qbn s 10 (by omega)
 have lS :=qa1 (spl 10 s)
 have hl :=qfd 10 s
 obtain ⟨L,hL⟩ : ∃ L,L = spl 10 s :=⟨_,rfl⟩
 rw [← hL] at h0 hm hN hH pz pS lS hl
 have p0 :=h0.2
 have hn :=h0.1
 have ir:inR 0 L.length = true :=qaj (i :=0) (by omega)
 have n0:nth (stA L) (0:Int).toNat = some (.str (gB L 0)) :=qa9 (l :=L) (i :=0) (by omega)
 have w3:IntKind.i64.wrap (Int.ofNat N.length + 3) = Int.ofNat (N.length + 3) :=qaz (m :=N.length + 3) (by omega)
 have w1:IntKind.i64.wrap (Int.ofNat N.length + 1) = Int.ofNat (N.length + 1) :=qaz (m :=N.length + 1) (by omega)
 have g3:decide ((L.length:Int) ≥ IntKind.i64.wrap (Int.ofNat N.length + 3)) = true :=decide_eq_true (by rw [w3];simp only [Int.ofNat_eq_natCast];omega)
 have w2:IntKind.i64.wrap ((L.length:Int) - 2) = Int.ofNat (N.length + 1 + m) :=by rw [← hm];exact (qel (by omega) (by omega)).trans (by simp only [Int.ofNat_eq_natCast];omega)
 refine qbj hE rfl (by repeat' first|exact trivial|assumption|exact qah _|exact fun _ h => nomatch h|apply And.intro) (by simp [noP,Live,Lives]) fun S q pc hS hq hC hE => ?_
 conv => whnf
 repeat ((first|refine qak (nthP n0) ?_|refine qak (qij (e :=9) (inf :=t9) (L :=L) (a :=1) (n :=N.length) (by kernel_rfl) (by kernel_rfl) (by kernel_rfl) rfl (w1.trans (by rw [Nat.add_comm])) (by omega)) ?_|refine qag ir ?_|refine qaf ir ?_|refine pkT ir ?_|refine qaa ir ?_|refine qac hC (pS) ?_|refine qac hC (p0) ?_|refine qac hC (qdw g3 s) ?_|refine qad hS (by kernel_rfl) ?_);conv => whnf)
 have lT :=qa1 ((L.drop 1).take N.length)
 refine qax hE hS (A :=Nat × AV × List AObj) [0,2,3,4,5,30,31] (fun (i,_,_) => [(32,nv i)]) (fun (_,v,_) => [(1,.cells (.node v (.node .nils .nil .nil) .nil) 2 64)]) (fun a => a.2.2) (fun (i,v,ux) => i ≤ N.length ∧ (i = 0 ∧ v = .nils ∧ ux = [] ∨ 0 < i ∧ v = lkVb N i 16 ∧ ux = uxL i)) (fun (i,_,_) => N.length - i) (0,.nils,[]) (kle rfl) rfl (by refine ⟨rfl,rfl,rfl,rfl,rfl,rfl,2,rfl,?_,?_⟩ <;> repeat' (first|exact trivial|exact rfl|exact wkr rfl|exact wko rfl|exact Nat.zero_le _|exact qbf _ _ (by decide)|exact kle rfl|exact bdq|exact mxI rfl|exact mxS rfl|apply And.intro)) ⟨Nat.zero_le _,.inl ⟨rfl,rfl,rfl⟩⟩ ?_
 rintro ⟨i,v,ux⟩ ⟨hi,hv⟩ K hK
 have hi:i ≤ N.length :=hi
 have lK :=qa5 (cL (N.take i))
 refine Or.elim hv (fun hv => ?_) fun hv => ?_
 ·obtain ⟨rfl,rfl,rfl⟩ :=hv
  obtain rfl:K = 2 :=hK
  conv => whnf
  by_cases hi2:0 < N.length
  ·have hir:0 < N.length :=by omega
   have hi1:IntKind.i64.wrap (Int.ofNat 0 + 1) = Int.ofNat (0 + 1) :=qaz (m :=0 + 1) (by omega)
   have pN :=(hN 0 hi2).2
   have gI :=qbl L (a :=1) (n :=N.length) (i :=0) (by omega) hir
   have e2 :=qg5 N 16 hi2
   repeat ((first|refine qak (nthP gI) ?_|refine qag (qae hir) ?_|refine qaf (qae hir) ?_|refine pkT (qae hir) ?_|refine qaa (qae hir) ?_|refine qal (qae hir) ?_|refine qam (qae hir) ?_|refine pkF (qae hir) ?_|refine qab (qae hir) ?_|refine qag (qaj hir) ?_|refine qaf (qaj hir) ?_|refine pkT (qaj hir) ?_|refine qaa (qaj hir) ?_|refine qac hC (pN) ?_|refine qad hS (by kernel_rfl) ?_);conv => whnf)
   exact ⟨(1,lkVb N 1 16,uxL 1),⟨hi2,.inr ⟨Nat.zero_lt_one,rfl,rfl⟩⟩,by show N.length - 1 < N.length - 0;omega,kle rfl,(by refine ⟨rfl,rfl,rfl,rfl,rfl,rfl,19,rfl,?_,?_⟩ <;> repeat' (first|exact trivial|exact rfl|exact wkr rfl|exact wko rfl|exact Nat.zero_le _|exact ⟨_,rfl,WkV.int hi1⟩|exact qcy e2|exact qbf _ _ (by decide)|exact kle rfl|exact bdq|exact mxI rfl|exact mxS rfl|apply And.intro))⟩
  ·have hiE:N.length = 0 :=by omega
   refine qab (qbe hi2) ?_
   conv => whnf
   refine .inl ?_
   conv => whnf
   have eN:N = [] :=by exact List.eq_nil_of_length_eq_zero (by omega)
   repeat ((first|refine qak (qij (e :=9) (inf :=t9) (L :=L) (a :=N.length + 1) (n :=m) (by kernel_rfl) (by kernel_rfl) (by kernel_rfl) w1 w2 (by omega)) ?_|refine qad hS (by kernel_rfl) ?_);conv => whnf)
   have lU :=qa1 ((L.drop (N.length + 1)).take m)
   have lW :=qa5 (cL (N.take N.length))
   refine qax hE hS (A :=Nat × AV × List AObj) [0,2,3,4,5,61,62] (fun (j,_,_) => [(63,nv j)]) (fun (_,w,_) => [(1,.cells (.node .nils (.node w .nil .nil) .nil) 2 64)]) (fun a => a.2.2) (fun (j,w,ux) => j ≤ H.length ∧ (j = 0 ∧ w = .nils ∧ ux = [] ∨ 0 < j ∧ w = hdV H j 8 ∧ ux = uxH j)) (fun (j,_,_) => H.length - j) (0,.nils,[]) (kle rfl) rfl (by refine ⟨rfl,rfl,rfl,rfl,rfl,rfl,2,rfl,?_,?_⟩ <;> repeat' (first|exact trivial|exact rfl|exact wkr rfl|exact wko rfl|exact Nat.zero_le _|exact qcv _ _ (by decide)|exact qbf _ _ (by decide)|exact kle rfl|exact bdq|exact mxI rfl|exact mxS rfl|apply And.intro)) ⟨Nat.zero_le _,.inl ⟨rfl,rfl,rfl⟩⟩ ?_
   rintro ⟨j,w,ux⟩ ⟨hj,hw⟩ K hK
   have hj:j ≤ H.length :=hj
   have lV :=qav (zl (H.take j))
   refine Or.elim hw (fun hw => ?_) fun hw => ?_
   ·obtain ⟨rfl,rfl,rfl⟩ :=hw
    obtain rfl:K = 2 :=hK
    conv => whnf
    by_cases hj3:0 < H.length
    ·have hjr:0 < m :=by omega
     have hj1:IntKind.i64.wrap (Int.ofNat 0 + 1) = Int.ofNat (0 + 1) :=qaz (m :=0 + 1) (by omega)
     have pN :=(hH 0 hj3).2
     have gI :=qbl L (a :=N.length + 1) (n :=m) (i :=0) (by omega) hjr
     have e2 :=qef H 8 hj3
     repeat ((first|refine qak (nthP gI) ?_|refine qag (qae hjr) ?_|refine qaf (qae hjr) ?_|refine pkT (qae hjr) ?_|refine qaa (qae hjr) ?_|refine qal (qae hjr) ?_|refine qam (qae hjr) ?_|refine pkF (qae hjr) ?_|refine qab (qae hjr) ?_|refine qag (qaj hjr) ?_|refine qaf (qaj hjr) ?_|refine pkT (qaj hjr) ?_|refine qaa (qaj hjr) ?_|refine qac hC (pN) ?_|refine qad hS (by kernel_rfl) ?_);conv => whnf)
     exact ⟨(1,hdV H 1 8,uxH 1),⟨hj3,.inr ⟨Nat.zero_lt_one,rfl,rfl⟩⟩,by show H.length - 1 < H.length - 0;omega,kle rfl,(by refine ⟨rfl,rfl,rfl,rfl,rfl,rfl,11,rfl,?_,?_⟩ <;> repeat' (first|exact trivial|exact rfl|exact wkr rfl|exact wko rfl|exact Nat.zero_le _|exact ⟨_,rfl,WkV.int hj1⟩|exact e2|exact qcd e2|exact qcv _ _ (by decide)|exact qbf _ _ (by decide)|exact kle rfl|exact bdq|exact mxI rfl|exact mxS rfl|apply And.intro))⟩
    ·have hjE:H.length = 0 :=by omega
     rw [hjE] at hz pz
     have gI :=qbl L (a :=N.length + 1) (n :=m) (i :=0) (by omega) hz
     repeat ((first|refine qak (nthP gI) ?_|refine qag (qae hz) ?_|refine qaf (qae hz) ?_|refine pkT (qae hz) ?_|refine qaa (qae hz) ?_|refine qal (qae hz) ?_|refine qam (qae hz) ?_|refine pkF (qae hz) ?_|refine qab (qae hz) ?_|refine qag (qaj hz) ?_|refine qaf (qaj hz) ?_|refine pkT (qaj hz) ?_|refine qaa (qaj hz) ?_|refine qad hS (by kernel_rfl) ?_);conv => whnf)
     refine qau hC ?_
     conv => whnf
     refine qa2 hS (pz) ?_
     conv => whnf
   ·obtain ⟨hj2,rfl,rfl⟩ :=hw
    obtain rfl:K = 11 :=hK
    conv => whnf
    by_cases hj3:j < H.length
    ·have hjr:j < m :=by omega
     have hj1:IntKind.i64.wrap (Int.ofNat j + 1) = Int.ofNat (j + 1) :=qaz (m :=j + 1) (by omega)
     have pN :=(hH j hj3).2
     have gI :=qbl L (a :=N.length + 1) (n :=m) (i :=j) (by omega) hjr
     have d1:decide ((j + (0 + 1)) * 8 ≤ 140737488355328) = true :=decide_eq_true (by omega)
     have d2:decide (j + (0 + 1) ≤ 9223372036854775807) = true :=decide_eq_true (by omega)
     have d4:decide (j = j) = true :=decide_eq_true rfl
     have d5 :=qee H hj
     have e2 :=qfo H 8 hj3
     repeat ((first|refine qak (nthP gI) ?_|refine qag (qae hjr) ?_|refine qaf (qae hjr) ?_|refine pkT (qae hjr) ?_|refine qaa (qae hjr) ?_|refine qal (qae hjr) ?_|refine qam (qae hjr) ?_|refine pkF (qae hjr) ?_|refine qab (qae hjr) ?_|refine qag (qaj hjr) ?_|refine qaf (qaj hjr) ?_|refine pkT (qaj hjr) ?_|refine qaa (qaj hjr) ?_|refine qag d1 ?_|refine qaf d1 ?_|refine pkT d1 ?_|refine qaa d1 ?_|refine qag d2 ?_|refine qaf d2 ?_|refine pkT d2 ?_|refine qaa d2 ?_|refine qag d4 ?_|refine qaf d4 ?_|refine pkT d4 ?_|refine qaa d4 ?_|refine qag d5 ?_|refine qaf d5 ?_|refine pkT d5 ?_|refine qaa d5 ?_|refine qal d5 ?_|refine qam d5 ?_|refine pkF d5 ?_|refine qab d5 ?_|refine qac hC (pN) ?_|refine qad hS (by kernel_rfl) ?_);conv => whnf)
     exact ⟨(j + 1,hdV H (j + 1) 8,uxH (j + 1)),⟨hj3,.inr ⟨Nat.succ_pos _,rfl,rfl⟩⟩,by show H.length - (j + 1) < H.length - j;omega,kle rfl,(by refine ⟨rfl,rfl,rfl,rfl,rfl,rfl,11,rfl,?_,?_⟩ <;> repeat' (first|exact trivial|exact rfl|exact wkr rfl|exact wko rfl|exact Nat.zero_le _|exact ⟨_,rfl,WkV.int hj1⟩|exact e2|exact qcd e2|exact qcv _ _ (by decide)|exact qbf _ _ (by decide)|exact kle rfl|exact bdq|exact mxI rfl|exact mxS rfl|apply And.intro))⟩
    ·have hjE:H.length = j :=by omega
     rw [hjE] at hz pz
     have gI :=qbl L (a :=N.length + 1) (n :=m) (i :=j) (by omega) hz
     repeat ((first|refine qak (nthP gI) ?_|refine qag (qae hz) ?_|refine qaf (qae hz) ?_|refine pkT (qae hz) ?_|refine qaa (qae hz) ?_|refine qal (qae hz) ?_|refine qam (qae hz) ?_|refine pkF (qae hz) ?_|refine qab (qae hz) ?_|refine qag (qaj hz) ?_|refine qaf (qaj hz) ?_|refine pkT (qaj hz) ?_|refine qaa (qaj hz) ?_|refine qad hS (by kernel_rfl) ?_);conv => whnf)
     refine qau hC ?_
     conv => whnf
     refine qa2 hS (pz) ?_
     conv => whnf
 ·obtain ⟨hi9,rfl,rfl⟩ :=hv
  obtain rfl:K = 19 :=hK
  conv => whnf
  by_cases hi2:i < N.length
  ·have hir:i < N.length :=by omega
   have hi1:IntKind.i64.wrap (Int.ofNat i + 1) = Int.ofNat (i + 1) :=qaz (m :=i + 1) (by omega)
   have pN :=(hN i hi2).2
   have gI :=qbl L (a :=1) (n :=N.length) (i :=i) (by omega) hir
   have d1:decide ((i + (0 + 1)) * 24 ≤ 140737488355328) = true :=decide_eq_true (by omega)
   have d2:decide (i + (0 + 1) ≤ 9223372036854775807) = true :=decide_eq_true (by omega)
   have d4:decide (i = i) = true :=decide_eq_true rfl
   have d5 :=qg8 N hi
   have e2 :=qj4 N 16 hi2
   repeat ((first|refine qak (nthP gI) ?_|refine qag (qae hir) ?_|refine qaf (qae hir) ?_|refine pkT (qae hir) ?_|refine qaa (qae hir) ?_|refine qal (qae hir) ?_|refine qam (qae hir) ?_|refine pkF (qae hir) ?_|refine qab (qae hir) ?_|refine qag (qaj hir) ?_|refine qaf (qaj hir) ?_|refine pkT (qaj hir) ?_|refine qaa (qaj hir) ?_|refine qag d1 ?_|refine qaf d1 ?_|refine pkT d1 ?_|refine qaa d1 ?_|refine qag d2 ?_|refine qaf d2 ?_|refine pkT d2 ?_|refine qaa d2 ?_|refine qag d4 ?_|refine qaf d4 ?_|refine pkT d4 ?_|refine qaa d4 ?_|refine qag d5 ?_|refine qaf d5 ?_|refine pkT d5 ?_|refine qaa d5 ?_|refine qal d5 ?_|refine qam d5 ?_|refine pkF d5 ?_|refine qab d5 ?_|refine qac hC (pN) ?_|refine qad hS (by kernel_rfl) ?_);conv => whnf)
   exact ⟨(i + 1,lkVb N (i + 1) 16,uxL (i + 1)),⟨hi2,.inr ⟨Nat.succ_pos _,rfl,rfl⟩⟩,by show N.length - (i + 1) < N.length - i;omega,kle rfl,(by refine ⟨rfl,rfl,rfl,rfl,rfl,rfl,19,rfl,?_,?_⟩ <;> repeat' (first|exact trivial|exact rfl|exact wkr rfl|exact wko rfl|exact Nat.zero_le _|exact ⟨_,rfl,WkV.int hi1⟩|exact qcy e2|exact qbf _ _ (by decide)|exact kle rfl|exact bdq|exact mxI rfl|exact mxS rfl|apply And.intro))⟩
  ·have hiE:N.length = i :=by omega
   subst hiE
   refine qab (qbe hi2) ?_
   conv => whnf
   refine .inl ?_
   conv => whnf
   have eN:N ≠ [] :=by intro z;rw [z] at hi9;exact absurd hi9 (Nat.not_lt_zero _)
   repeat ((first|refine qak (qij (e :=9) (inf :=t9) (L :=L) (a :=N.length + 1) (n :=m) (by kernel_rfl) (by kernel_rfl) (by kernel_rfl) w1 w2 (by omega)) ?_|refine qad hS (by kernel_rfl) ?_);conv => whnf)
   have lU :=qa1 ((L.drop (N.length + 1)).take m)
   have lW :=qa5 (cL (N.take N.length))
   refine qax hE hS (A :=Nat × AV × List AObj) [0,2,3,4,5,61,62] (fun (j,_,_) => [(63,nv j)]) (fun (_,w,_) => [(1,.cells (.node (lkVb N N.length 16) (.node w .nil .nil) .nil) 2 64)]) (fun a => a.2.2) (fun (j,w,ux) => j ≤ H.length ∧ (j = 0 ∧ w = .nils ∧ ux = [] ∨ 0 < j ∧ w = hdV H j 25 ∧ ux = uxH j)) (fun (j,_,_) => H.length - j) (0,.nils,[]) (kle rfl) rfl (by refine ⟨rfl,rfl,rfl,rfl,rfl,rfl,19,rfl,?_,?_⟩ <;> repeat' (first|exact trivial|exact rfl|exact wkr rfl|exact wko rfl|exact Nat.zero_le _|exact qcv _ _ (by decide)|exact qbf _ _ (by decide)|exact kle rfl|exact bdq|exact mxI rfl|exact mxS rfl|apply And.intro)) ⟨Nat.zero_le _,.inl ⟨rfl,rfl,rfl⟩⟩ ?_
   rintro ⟨j,w,ux⟩ ⟨hj,hw⟩ K hK
   have hj:j ≤ H.length :=hj
   have lV :=qav (zl (H.take j))
   refine Or.elim hw (fun hw => ?_) fun hw => ?_
   ·obtain ⟨rfl,rfl,rfl⟩ :=hw
    obtain rfl:K = 19 :=hK
    conv => whnf
    by_cases hj3:0 < H.length
    ·have hjr:0 < m :=by omega
     have hj1:IntKind.i64.wrap (Int.ofNat 0 + 1) = Int.ofNat (0 + 1) :=qaz (m :=0 + 1) (by omega)
     have pN :=(hH 0 hj3).2
     have gI :=qbl L (a :=N.length + 1) (n :=m) (i :=0) (by omega) hjr
     have e2 :=qef H 25 hj3
     repeat ((first|refine qak (nthP gI) ?_|refine qag (qae hjr) ?_|refine qaf (qae hjr) ?_|refine pkT (qae hjr) ?_|refine qaa (qae hjr) ?_|refine qal (qae hjr) ?_|refine qam (qae hjr) ?_|refine pkF (qae hjr) ?_|refine qab (qae hjr) ?_|refine qag (qaj hjr) ?_|refine qaf (qaj hjr) ?_|refine pkT (qaj hjr) ?_|refine qaa (qaj hjr) ?_|refine qac hC (pN) ?_|refine qad hS (by kernel_rfl) ?_);conv => whnf)
     exact ⟨(1,hdV H 1 25,uxH 1),⟨hj3,.inr ⟨Nat.zero_lt_one,rfl,rfl⟩⟩,by show H.length - 1 < H.length - 0;omega,kle rfl,(by refine ⟨rfl,rfl,rfl,rfl,rfl,rfl,28,rfl,?_,?_⟩ <;> repeat' (first|exact trivial|exact rfl|exact wkr rfl|exact wko rfl|exact Nat.zero_le _|exact ⟨_,rfl,WkV.int hj1⟩|exact e2|exact qcd e2|exact qcv _ _ (by decide)|exact qbf _ _ (by decide)|exact kle rfl|exact bdq|exact mxI rfl|exact mxS rfl|apply And.intro))⟩
    ·have hjE:H.length = 0 :=by omega
     rw [hjE] at hz pz
     have gI :=qbl L (a :=N.length + 1) (n :=m) (i :=0) (by omega) hz
     repeat ((first|refine qak (nthP gI) ?_|refine qag (qae hz) ?_|refine qaf (qae hz) ?_|refine pkT (qae hz) ?_|refine qaa (qae hz) ?_|refine qal (qae hz) ?_|refine qam (qae hz) ?_|refine pkF (qae hz) ?_|refine qab (qae hz) ?_|refine qag (qaj hz) ?_|refine qaf (qaj hz) ?_|refine pkT (qaj hz) ?_|refine qaa (qaj hz) ?_|refine qad hS (by kernel_rfl) ?_);conv => whnf)
     refine qau hC ?_
     conv => whnf
     refine qa2 hS (pz) ?_
     conv => whnf
   ·obtain ⟨hj2,rfl,rfl⟩ :=hw
    obtain rfl:K = 28 :=hK
    conv => whnf
    by_cases hj3:j < H.length
    ·have hjr:j < m :=by omega
     have hj1:IntKind.i64.wrap (Int.ofNat j + 1) = Int.ofNat (j + 1) :=qaz (m :=j + 1) (by omega)
     have pN :=(hH j hj3).2
     have gI :=qbl L (a :=N.length + 1) (n :=m) (i :=j) (by omega) hjr
     have d1:decide ((j + (0 + 1)) * 8 ≤ 140737488355328) = true :=decide_eq_true (by omega)
     have d2:decide (j + (0 + 1) ≤ 9223372036854775807) = true :=decide_eq_true (by omega)
     have d4:decide (j = j) = true :=decide_eq_true rfl
     have d5 :=qee H hj
     have e2 :=qfo H 25 hj3
     repeat ((first|refine qak (nthP gI) ?_|refine qag (qae hjr) ?_|refine qaf (qae hjr) ?_|refine pkT (qae hjr) ?_|refine qaa (qae hjr) ?_|refine qal (qae hjr) ?_|refine qam (qae hjr) ?_|refine pkF (qae hjr) ?_|refine qab (qae hjr) ?_|refine qag (qaj hjr) ?_|refine qaf (qaj hjr) ?_|refine pkT (qaj hjr) ?_|refine qaa (qaj hjr) ?_|refine qag d1 ?_|refine qaf d1 ?_|refine pkT d1 ?_|refine qaa d1 ?_|refine qag d2 ?_|refine qaf d2 ?_|refine pkT d2 ?_|refine qaa d2 ?_|refine qag d4 ?_|refine qaf d4 ?_|refine pkT d4 ?_|refine qaa d4 ?_|refine qag d5 ?_|refine qaf d5 ?_|refine pkT d5 ?_|refine qaa d5 ?_|refine qal d5 ?_|refine qam d5 ?_|refine pkF d5 ?_|refine qab d5 ?_|refine qac hC (pN) ?_|refine qad hS (by kernel_rfl) ?_);conv => whnf)
     exact ⟨(j + 1,hdV H (j + 1) 25,uxH (j + 1)),⟨hj3,.inr ⟨Nat.succ_pos _,rfl,rfl⟩⟩,by show H.length - (j + 1) < H.length - j;omega,kle rfl,(by refine ⟨rfl,rfl,rfl,rfl,rfl,rfl,28,rfl,?_,?_⟩ <;> repeat' (first|exact trivial|exact rfl|exact wkr rfl|exact wko rfl|exact Nat.zero_le _|exact ⟨_,rfl,WkV.int hj1⟩|exact e2|exact qcd e2|exact qcv _ _ (by decide)|exact qbf _ _ (by decide)|exact kle rfl|exact bdq|exact mxI rfl|exact mxS rfl|apply And.intro))⟩
    ·have hjE:H.length = j :=by omega
     rw [hjE] at hz pz
     have gI :=qbl L (a :=N.length + 1) (n :=m) (i :=j) (by omega) hz
     repeat ((first|refine qak (nthP gI) ?_|refine qag (qae hz) ?_|refine qaf (qae hz) ?_|refine pkT (qae hz) ?_|refine qaa (qae hz) ?_|refine qal (qae hz) ?_|refine qam (qae hz) ?_|refine pkF (qae hz) ?_|refine qab (qae hz) ?_|refine qag (qaj hz) ?_|refine qaf (qaj hz) ?_|refine pkT (qaj hz) ?_|refine qaa (qaj hz) ?_|refine qad hS (by kernel_rfl) ?_);conv => whnf)
     refine qau hC ?_
     conv => whnf
     refine qa2 hS (pz) ?_
     conv => whnf
end
end Go.Abs.Seat
namespace Go.Abs.Seat
noncomputable section
open Go Go.Abs Go.Proofs.Tryz
set_option maxRecDepth 100000
set_option maxHeartbeats 40000000
attribute [local irreducible] IntKind.wrap pEq qb8
theorem qkp (c:UInt8):∀ u,(∀ b,b ∈ u → b ≠ c) → spl c u = [u]
 | [],_ => rfl
 |b :: r,h => by rw [spl,if_neg (h b (List.mem_cons_self ..)),qkp c r fun x hx => h x (List.mem_cons_of_mem _ hx)]
theorem qfs (c:UInt8) (v:List UInt8):∀ u,(∀ b,b ∈ u → b ≠ c) → spl c (u ++ c :: v) = u :: spl c v
 | [],_ => by rw [List.nil_append,spl,if_pos rfl]
 |b :: r,h => by rw [List.cons_append,spl,if_neg (h b (List.mem_cons_self ..)),qfs c v r fun x hx => h x (List.mem_cons_of_mem _ hx)]
def frB (c:UInt8) (s:List UInt8):Nat → Nat
 | 0 => 0
 |i + 1 => if s.getD i 0 = c then i + 1 else frB c s i
def ptB (c:UInt8) (s:List UInt8):Nat → List (List UInt8)
 | 0 => []
 |i + 1 => if s.getD i 0 = c then ptB c s i ++ [(s.drop (frB c s i)).take (i - frB c s i)] else ptB c s i
theorem qny (c:UInt8) (s:List UInt8):∀ i,frB c s i ≤ i
 | 0 => Nat.le_refl _
 |i + 1 => by
  have :=qny c s i
  rw [frB]
  split <;> omega
theorem qqf (c:UInt8) (s:List UInt8):∀ i,(ptB c s i).length ≤ i
 | 0 => Nat.le_refl _
 |i + 1 => by
  have :=qqf c s i
  rw [ptB]
  split
  ·rw [List.length_append,List.length_singleton];omega
  ·omega
theorem qud (c:UInt8) (s:List UInt8):∀ i,i ≤ s.length → spl c s = ptB c s i ++ spl c (s.drop (frB c s i)) ∧ ∀ b,b ∈ (s.drop (frB c s i)).take (i - frB c s i) → b ≠ c
 | 0,_ => ⟨rfl,fun b h => by simp at h⟩
 |i + 1,hi => by
  obtain ⟨h1,h2⟩ :=qud c s i (by omega)
  have hf :=qny c s i
  have hlt:i < s.length :=hi
  have hg:s.getD i 0 = s[i] :=by simp [List.getD,hlt]
  have e1:s.drop (frB c s i) = (s.drop (frB c s i)).take (i - frB c s i) ++ s[i] :: s.drop (i + 1) :=by
   rw [← List.drop_eq_getElem_cons hlt]
   have :=(List.take_append_drop (i - frB c s i) (s.drop (frB c s i))).symm
   rw [List.drop_drop,show frB c s i + (i - frB c s i) = i by omega] at this
   exact this
  by_cases e:s.getD i 0 = c
  ·rw [frB,ptB,if_pos e,if_pos e]
   refine ⟨?_,fun b h => by simp at h⟩
   have k :=qfs c (s.drop (i + 1)) _ h2
   rw [hg] at e
   rw [e] at e1
   rw [← e1] at k
   rw [h1,k,List.append_assoc];rfl
  ·rw [frB,ptB,if_neg e,if_neg e]
   refine ⟨h1,fun b hb => ?_⟩
   rw [e1,show i + 1 - frB c s i = (i - frB c s i) + 1 by omega,List.take_append,List.length_take,List.length_drop] at hb
   rcases List.mem_append.1 hb with hb | hb
   ·exact h2 b (List.mem_of_mem_take hb)
   ·rw [show i - frB c s i + 1 - min (i - frB c s i) (s.length - frB c s i) = 1 by omega] at hb
    have hb:b ∈ [s[i]] :=hb
    rw [List.mem_singleton.1 hb,← hg];exact e
theorem que (c:UInt8) (s:List UInt8):spl c s = ptB c s s.length ++ [s.drop (frB c s s.length)] :=by
 obtain ⟨h1,h2⟩ :=qud c s s.length (Nat.le_refl _)
 have hf :=qny c s s.length
 rw [List.take_of_length_le (by rw [List.length_drop];exact Nat.le_refl _)] at h2
 exact h1.trans (by rw [qkp c _ h2])
theorem qpz (l:List (List UInt8)) (x:List UInt8):stA l ++ [.str x] = stA (l ++ [x]) :=by
 unfold stA
 rw [List.map_append];rfl
theorem qn6 {l:List (List UInt8)} {k c n:Nat} (hc:c + 1 ≤ n):bd (.lst (stA l) k (.ch c)) ≤ n :=Nat.max_le.2 ⟨hc,qai (qa1 l)⟩
theorem qt7 {xs ys:List AV} {n m c:Nat} (e:AV.lst xs n (.ch c) = .lst ys m (.ch c)):Wk (.lst xs n (.ch c)) (.lst ys m .no) :=by
 cases e
 exact (WkV.own _ _ _).wk
theorem qbx {l:List (List UInt8)}:qc6 (stA l) (l.length * 1) = true :=by
 rw [Nat.mul_one,← qga]
 exact qcp _
theorem qsl (a b:UInt8):((Int.ofNat a.toNat) == (Int.ofNat b.toNat)) = decide (a = b) :=by
 by_cases h:a = b
 ·rw [decide_eq_true h,h];exact beq_self_eq_true _
 ·rw [decide_eq_false h]
  exact beq_eq_false_iff_ne.2 fun z => h (UInt8.toNat_inj.1 (Int.ofNat.inj z))
theorem qcw (s:List UInt8) (c:UInt8) (hs:s.length ≤ 1000):Pure prog 97 [.str s,.int .u8 c.toNat] (.lst (stA (spl c s)) (spl c s).length .no) :=by
 have lS :=qa1 (spl c s)
 refine qas hE rfl (by repeat' first|exact trivial|assumption|exact qah _|exact fun _ h => nomatch h|apply And.intro) (by repeat' first|exact trivial|assumption|exact qah _|exact fun _ h => nomatch h|apply And.intro) fun S q pc hS hq hC hE => ?_
 conv => whnf
 refine qax hE hS (A :=Nat × AV × List AObj) [0,1] (fun (i,v,_) => [(5,v),(6,nv (frB c s i)),(7,nv i)]) (fun _ => []) (fun a => a.2.2) (fun (i,v,ux) => i ≤ s.length ∧ (ptB c s i = [] ∧ v = .nils ∧ ux = [] ∨ ptB c s i ≠ [] ∧ v = .lst (stA (ptB c s i)) (ptB c s i).length (.ch 0) ∧ ux = [.chain (ptB c s i).length 1 9])) (fun (i,_,_) => s.length - i) (0,.nils,[]) (kle rfl) rfl (by refine ⟨rfl,rfl,rfl,rfl,rfl,rfl,0,rfl,?_,?_⟩ <;> repeat' (first|exact trivial|exact rfl|exact wkr rfl|exact wko rfl|exact Nat.zero_le _|exact qn6 (by decide)|exact kle rfl|exact bdq|exact mxI rfl|exact mxS rfl|apply And.intro)) ⟨Nat.zero_le _,.inl ⟨rfl,rfl,rfl⟩⟩ ?_
 rintro ⟨i,v,ux⟩ ⟨hi,hv⟩ K hK
 have hf :=qny c s i
 have hpl :=qqf c s i
 have hs9:i ≤ s.length :=hi
 refine Or.elim hv (fun hv => ?_) fun hv => ?_
 ·obtain ⟨he,rfl,rfl⟩ :=hv
  obtain rfl:K = 0 :=hK
  conv => whnf
  by_cases hi2:i < s.length
  ·have hi1:IntKind.i64.wrap (Int.ofNat i + 1) = Int.ofNat (i + 1) :=qaz (m :=i + 1) (by omega)
   by_cases hc:s.getD i 0 = c
   ·have c1:((Int.ofNat (s.getD i 0).toNat) == (Int.ofNat c.toNat)) = true :=by rw [qsl];exact decide_eq_true hc
    have e0:ptB c s (i + 1) = ptB c s i ++ [(s.drop (frB c s i)).take (i - frB c s i)] :=by rw [ptB,if_pos hc]
    have e4:frB c s (i + 1) = i + 1 :=by rw [frB,if_pos hc]
    have e2:AV.lst [.str ((s.drop (frB c s i)).take (i - frB c s i))] (0 + 1) (.ch 0) = .lst (stA (ptB c s (i + 1))) (ptB c s (i + 1)).length (.ch 0) :=by rw [e0,he];rfl
    have e3:AObj.chain (0 + 1) 1 9 = .chain (ptB c s (i + 1)).length 1 9 :=by rw [e0,he];rfl
    repeat ((first|refine qak (qco hi2) ?_|refine qak (qsr (a :=frB c s i) (b :=i) (by kernel_rfl) rfl rfl hf hs9) ?_|refine qag (qae hi2) ?_|refine qaf (qae hi2) ?_|refine pkT (qae hi2) ?_|refine qaa (qae hi2) ?_|refine qal (qae hi2) ?_|refine qam (qae hi2) ?_|refine pkF (qae hi2) ?_|refine qab (qae hi2) ?_|refine qag (qaj hi2) ?_|refine qaf (qaj hi2) ?_|refine pkT (qaj hi2) ?_|refine qaa (qaj hi2) ?_|refine qag c1 ?_|refine qaf c1 ?_|refine pkT c1 ?_|refine qaa c1 ?_|refine qad hS (by kernel_rfl) ?_);conv => whnf)
    exact ⟨(i + 1,.lst (stA (ptB c s (i + 1))) (ptB c s (i + 1)).length (.ch 0),[.chain (ptB c s (i + 1)).length 1 9]),⟨hi2,.inr ⟨by rw [e0];simp,rfl,rfl⟩⟩,by show s.length - (i + 1) < s.length - i;omega,kle rfl,(by refine ⟨rfl,rfl,rfl,rfl,rfl,rfl,1,rfl,?_,?_⟩ <;> repeat' (first|exact trivial|exact rfl|exact wkr rfl|exact wko rfl|exact Nat.zero_le _|exact ⟨_,rfl,WkV.int hi1⟩|exact ⟨_,rfl,WkV.int (hi1.trans (congrArg Int.ofNat e4.symm))⟩|exact ⟨_,rfl,WkV.eq e2⟩|exact e3|exact qn6 (by decide)|exact kle rfl|exact bdq|exact mxI rfl|exact mxS rfl|apply And.intro))⟩
   ·have c1:((Int.ofNat (s.getD i 0).toNat) == (Int.ofNat c.toNat)) = false :=by rw [qsl];exact decide_eq_false hc
    have e0:ptB c s (i + 1) = ptB c s i :=by rw [ptB,if_neg hc]
    have e4:frB c s (i + 1) = frB c s i :=by rw [frB,if_neg hc]
    repeat ((first|refine qak (qco hi2) ?_|refine qag (qae hi2) ?_|refine qaf (qae hi2) ?_|refine pkT (qae hi2) ?_|refine qaa (qae hi2) ?_|refine qal (qae hi2) ?_|refine qam (qae hi2) ?_|refine pkF (qae hi2) ?_|refine qab (qae hi2) ?_|refine qag (qaj hi2) ?_|refine qaf (qaj hi2) ?_|refine pkT (qaj hi2) ?_|refine qaa (qaj hi2) ?_|refine qal c1 ?_|refine qam c1 ?_|refine pkF c1 ?_|refine qab c1 ?_|refine qad hS (by kernel_rfl) ?_);conv => whnf)
    exact ⟨(i + 1,.nils,[]),⟨hi2,.inl ⟨e0.trans he,rfl,rfl⟩⟩,by show s.length - (i + 1) < s.length - i;omega,Nat.le_refl _,(by refine ⟨rfl,rfl,rfl,rfl,rfl,rfl,0,rfl,?_,?_⟩ <;> repeat' (first|exact trivial|exact rfl|exact wkr rfl|exact wko rfl|exact Nat.zero_le _|exact ⟨_,rfl,WkV.int hi1⟩|exact ⟨_,rfl,WkV.int (congrArg Int.ofNat e4.symm)⟩|exact kle rfl|exact bdq|exact mxI rfl|exact mxS rfl|apply And.intro))⟩
  ·have hiE:i = s.length :=by omega
   have hE2 :=que c s
   rw [← hiE] at hE2
   refine qab (qbe hi2) ?_
   conv => whnf
   refine .inl ?_
   conv => whnf
   have e2:AV.lst [.str (s.drop (frB c s i))] (0 + 1) (.ch 0) = .lst (stA (spl c s)) (spl c s).length (.ch 0) :=by rw [hE2,he];rfl
   repeat ((first|refine qak (qhl (a :=frB c s i) (by kernel_rfl) rfl (Nat.le_trans hf hs9)) ?_|refine qad hS (by kernel_rfl) ?_);conv => whnf)
   exact ⟨_,rfl,qt7 e2⟩
 ·obtain ⟨he,rfl,rfl⟩ :=hv
  obtain rfl:K = 1 :=hK
  conv => whnf
  by_cases hi2:i < s.length
  ·have hi1:IntKind.i64.wrap (Int.ofNat i + 1) = Int.ofNat (i + 1) :=qaz (m :=i + 1) (by omega)
   by_cases hc:s.getD i 0 = c
   ·have c1:((Int.ofNat (s.getD i 0).toNat) == (Int.ofNat c.toNat)) = true :=by rw [qsl];exact decide_eq_true hc
    have e0:ptB c s (i + 1) = ptB c s i ++ [(s.drop (frB c s i)).take (i - frB c s i)] :=by rw [ptB,if_pos hc]
    have e4:frB c s (i + 1) = i + 1 :=by rw [frB,if_pos hc]
    have e2:AV.lst (stA (ptB c s i) ++ [.str ((s.drop (frB c s i)).take (i - frB c s i))]) ((ptB c s i).length + (0 + 1)) (.ch 0) = .lst (stA (ptB c s (i + 1))) (ptB c s (i + 1)).length (.ch 0) :=by rw [e0,qpz,List.length_append];rfl
    have e3:AObj.chain ((ptB c s i).length + (0 + 1)) 1 9 = .chain (ptB c s (i + 1)).length 1 9 :=by rw [e0,List.length_append];rfl
    have d1:decide (((ptB c s i).length + (0 + 1)) * 16 ≤ 140737488355328) = true :=decide_eq_true (by omega)
    have d2:decide ((ptB c s i).length + (0 + 1) ≤ 9223372036854775807) = true :=decide_eq_true (by omega)
    have d4:decide ((ptB c s i).length = (ptB c s i).length) = true :=decide_eq_true rfl
    repeat ((first|refine qak (qco hi2) ?_|refine qak (qsr (a :=frB c s i) (b :=i) (by kernel_rfl) rfl rfl hf hs9) ?_|refine qag (qae hi2) ?_|refine qaf (qae hi2) ?_|refine pkT (qae hi2) ?_|refine qaa (qae hi2) ?_|refine qal (qae hi2) ?_|refine qam (qae hi2) ?_|refine pkF (qae hi2) ?_|refine qab (qae hi2) ?_|refine qag (qaj hi2) ?_|refine qaf (qaj hi2) ?_|refine pkT (qaj hi2) ?_|refine qaa (qaj hi2) ?_|refine qag c1 ?_|refine qaf c1 ?_|refine pkT c1 ?_|refine qaa c1 ?_|refine qag d1 ?_|refine qaf d1 ?_|refine pkT d1 ?_|refine qaa d1 ?_|refine qag d2 ?_|refine qaf d2 ?_|refine pkT d2 ?_|refine qaa d2 ?_|refine qag qbx ?_|refine qaf qbx ?_|refine pkT qbx ?_|refine qaa qbx ?_|refine qal qbx ?_|refine qam qbx ?_|refine pkF qbx ?_|refine qab qbx ?_|refine qag d4 ?_|refine qaf d4 ?_|refine pkT d4 ?_|refine qaa d4 ?_|refine qad hS (by kernel_rfl) ?_);conv => whnf)
    exact ⟨(i + 1,.lst (stA (ptB c s (i + 1))) (ptB c s (i + 1)).length (.ch 0),[.chain (ptB c s (i + 1)).length 1 9]),⟨hi2,.inr ⟨by rw [e0];simp,rfl,rfl⟩⟩,by show s.length - (i + 1) < s.length - i;omega,kle rfl,(by refine ⟨rfl,rfl,rfl,rfl,rfl,rfl,1,rfl,?_,?_⟩ <;> repeat' (first|exact trivial|exact rfl|exact wkr rfl|exact wko rfl|exact Nat.zero_le _|exact ⟨_,rfl,WkV.int hi1⟩|exact ⟨_,rfl,WkV.int (hi1.trans (congrArg Int.ofNat e4.symm))⟩|exact ⟨_,rfl,WkV.eq e2⟩|exact e3|exact qn6 (by decide)|exact kle rfl|exact bdq|exact mxI rfl|exact mxS rfl|apply And.intro))⟩
   ·have c1:((Int.ofNat (s.getD i 0).toNat) == (Int.ofNat c.toNat)) = false :=by rw [qsl];exact decide_eq_false hc
    have e0:ptB c s (i + 1) = ptB c s i :=by rw [ptB,if_neg hc]
    have e4:frB c s (i + 1) = frB c s i :=by rw [frB,if_neg hc]
    repeat ((first|refine qak (qco hi2) ?_|refine qag (qae hi2) ?_|refine qaf (qae hi2) ?_|refine pkT (qae hi2) ?_|refine qaa (qae hi2) ?_|refine qal (qae hi2) ?_|refine qam (qae hi2) ?_|refine pkF (qae hi2) ?_|refine qab (qae hi2) ?_|refine qag (qaj hi2) ?_|refine qaf (qaj hi2) ?_|refine pkT (qaj hi2) ?_|refine qaa (qaj hi2) ?_|refine qal c1 ?_|refine qam c1 ?_|refine pkF c1 ?_|refine qab c1 ?_|refine qad hS (by kernel_rfl) ?_);conv => whnf)
    have e2:AV.lst (stA (ptB c s i)) (ptB c s i).length (.ch 0) = .lst (stA (ptB c s (i + 1))) (ptB c s (i + 1)).length (.ch 0) :=by rw [e0]
    have e3:AObj.chain (ptB c s i).length 1 9 = .chain (ptB c s (i + 1)).length 1 9 :=by rw [e0]
    exact ⟨(i + 1,.lst (stA (ptB c s (i + 1))) (ptB c s (i + 1)).length (.ch 0),[.chain (ptB c s (i + 1)).length 1 9]),⟨hi2,.inr ⟨by rw [e0];exact he,rfl,rfl⟩⟩,by show s.length - (i + 1) < s.length - i;omega,Nat.le_refl _,(by refine ⟨rfl,rfl,rfl,rfl,rfl,rfl,1,rfl,?_,?_⟩ <;> repeat' (first|exact trivial|exact rfl|exact wkr rfl|exact wko rfl|exact Nat.zero_le _|exact ⟨_,rfl,WkV.int hi1⟩|exact ⟨_,rfl,WkV.int (congrArg Int.ofNat e4.symm)⟩|exact ⟨_,rfl,WkV.eq e2⟩|exact e3|exact qn6 (by decide)|exact kle rfl|exact bdq|exact mxI rfl|exact mxS rfl|apply And.intro))⟩
  ·have hiE:i = s.length :=by omega
   have hE2 :=que c s
   rw [← hiE] at hE2
   refine qab (qbe hi2) ?_
   conv => whnf
   refine .inl ?_
   conv => whnf
   have e2:AV.lst (stA (ptB c s i) ++ [.str (s.drop (frB c s i))]) ((ptB c s i).length + (0 + 1)) (.ch 0) = .lst (stA (spl c s)) (spl c s).length (.ch 0) :=by rw [hE2,qpz,List.length_append];rfl
   have d1:decide (((ptB c s i).length + (0 + 1)) * 16 ≤ 140737488355328) = true :=decide_eq_true (by omega)
   have d2:decide ((ptB c s i).length + (0 + 1) ≤ 9223372036854775807) = true :=decide_eq_true (by omega)
   have d4:decide ((ptB c s i).length = (ptB c s i).length) = true :=decide_eq_true rfl
   repeat ((first|refine qak (qhl (a :=frB c s i) (by kernel_rfl) rfl (Nat.le_trans hf hs9)) ?_|refine qag d1 ?_|refine qaf d1 ?_|refine pkT d1 ?_|refine qaa d1 ?_|refine qag d2 ?_|refine qaf d2 ?_|refine pkT d2 ?_|refine qaa d2 ?_|refine qag qbx ?_|refine qaf qbx ?_|refine pkT qbx ?_|refine qaa qbx ?_|refine qal qbx ?_|refine qam qbx ?_|refine pkF qbx ?_|refine qab qbx ?_|refine qag d4 ?_|refine qaf d4 ?_|refine pkT d4 ?_|refine qaa d4 ?_|refine qad hS (by kernel_rfl) ?_);conv => whnf)
   exact ⟨_,rfl,qt7 e2⟩
end
end Go.Abs.Seat
namespace Go.Abs.Seat
noncomputable section
open Go Go.Abs Go.Proofs.Tryz
set_option maxRecDepth 100000
set_option maxHeartbeats 40000000
attribute [local irreducible] pEq qb8 IntKind.wrap
theorem qyc:∀ n,n < 100 → ∀ x,x ∈ dec n → 48 ≤ x.toNat ∧ x.toNat ≤ 57 :=by decide +kernel
theorem qe0:∀ a,a < 100 → ∀ b,b < 100 → dec a = dec b → a = b :=by decide +kernel
theorem qd6 {n:Nat} (h:n < 100) {c:UInt8} (hc:c = 10 ∨ c = 32):∀ b,b ∈ dec n → b ≠ c :=fun b hb e => by
 have :=qyc n h b hb
 rw [e] at this
 rcases hc with rfl | rfl
 ·exact absurd this.1 (by decide)
 ·exact absurd this.1 (by decide)
theorem qd3 {a b:List UInt8} {c:UInt8} (ha:∀ x,x ∈ a → x ≠ c) (hb:∀ x,x ∈ b → x ≠ c):∀ x,x ∈ a ++ b → x ≠ c :=fun x hx => (List.mem_append.1 hx).elim (ha x) (hb x)
def qpj:List UInt8 :=[112,105,101,99,101]
def qen:List UInt8 :=[108,105,110,107]
def qfb:List UInt8 :=[104,97,110,100]
theorem qxs {n:Nat} (h:n < 100):∀ x,x ∈ lnM n → x ≠ 10 :=qd3 (by decide) (qd3 (by decide) (qd6 h (.inl rfl)))
theorem qxt {x:Lk} (h:x.1 < 100 ∧ x.2.1 < 100 ∧ x.2.2 < 100):∀ y,y ∈ lnL x → y ≠ 10 :=qd3 (qd3 (qd3 (by decide) (qd3 (by decide) (qd6 h.1 (.inl rfl)))) (qd3 (by decide) (qd6 h.2.1 (.inl rfl)))) (qd3 (by decide) (qd6 h.2.2 (.inl rfl)))
theorem qxu {n:Nat} (h:n < 100):∀ x,x ∈ lnH n → x ≠ 10 :=qd3 (by decide) (qd3 (by decide) (qd6 h (.inl rfl)))
theorem qgf {n:Nat} (h:n < 100):spl 32 (lnM n) = [qpj,dec n] :=by
 have k :=qfs 32 (dec n) qpj (by decide)
 rw [qkp 32 _ (qd6 h (.inr rfl))] at k
 exact k
theorem qj1 {n:Nat} (h:n < 100):spl 32 (lnH n) = [qfb,dec n] :=by
 have k :=qfs 32 (dec n) qfb (by decide)
 rw [qkp 32 _ (qd6 h (.inr rfl))] at k
 exact k
theorem qj0 {x:Lk} (h:x.1 < 100 ∧ x.2.1 < 100 ∧ x.2.2 < 100):spl 32 (lnL x) = [qen,dec x.1,dec x.2.1,dec x.2.2] :=by
 have k1 :=qfs 32 (dec x.2.2) (dec x.2.1) (qd6 h.2.1 (.inr rfl))
 rw [qkp 32 _ (qd6 h.2.2 (.inr rfl))] at k1
 have k2 :=qfs 32 (dec x.2.1 ++ 32 :: dec x.2.2) (dec x.1) (qd6 h.1 (.inr rfl))
 rw [k1] at k2
 have k3 :=qfs 32 (dec x.1 ++ 32 :: (dec x.2.1 ++ 32 :: dec x.2.2)) qen (by decide)
 rw [k2] at k3
 rw [← k3]
 congr 1
 unfold lnL qen
 simp
theorem qxm {l:List (List UInt8)} (h:∀ w,w ∈ l → ∀ b,b ∈ w → b ≠ 10) (x:List UInt8):∀ i,i ≤ l.length → spl 10 (ouB l i ++ x) = l.take i ++ spl 10 x :=by
 intro i
 induction i generalizing x with
 |zero => intro _;rfl
 |succ i ih =>
  intro hi
  have hlt:i < l.length :=hi
  have e:gB l i = l[i] :=by simp [gB,List.getD,hlt]
  rw [ouB,List.append_assoc,List.append_assoc,ih _ (by omega)]
  show _ ++ spl 10 (gB l i ++ 10 :: x) = _
  rw [qfs 10 x (gB l i) (h _ (by rw [e];exact List.getElem_mem hlt)),List.take_succ_eq_append_getElem hlt,e,List.append_assoc]
  rfl
def endL (c:Nat):List UInt8 :=[101,110,100,32] ++ (dec (c / 100) ++ (dec (c / 10 % 10) ++ dec (c % 10)))
theorem qum (o:List UInt8) (c:Nat):finB o c = o ++ (endL c ++ [10]) :=by
 unfold finB endL
 simp only [List.append_assoc]
theorem qwk {c:Nat} (h:c < 1000):∀ x,x ∈ endL c → x ≠ 10 :=qd3 (by decide) (qd3 (qd6 (by omega) (.inl rfl)) (qd3 (qd6 (by omega) (.inl rfl)) (qd6 (by omega) (.inl rfl))))
theorem qxr {N:List Lk} {H:List Nat} (h:okT N H) (hN:N.length < 100):∀ w,w ∈ lnsB N H → ∀ b,b ∈ w → b ≠ 10 :=by
 intro w hw
 rcases List.mem_cons.1 hw with rfl | hw
 ·exact qxs hN
 ·rcases List.mem_append.1 hw with hw | hw
  ·obtain ⟨x,hx,rfl⟩ :=List.mem_map.1 hw
   exact qxt (h.1 x hx)
  ·obtain ⟨x,hx,rfl⟩ :=List.mem_map.1 hw
   exact qxu (h.2 x hx)
theorem qvn {N:List Lk} {H:List Nat} (h:okT N H) (hN:N.length < 100):∃ e,spl 10 (prtB N H) = lnsB N H ++ [e,[]] :=by
 refine ⟨endL (ckN (lnsB N H) (lnsB N H).length % 127),?_⟩
 unfold prtB
 rw [qum,qxm (qxr h hN) _ _ (Nat.le_refl _),List.take_length]
 have k :=qfs 10 [] (endL (ckN (lnsB N H) (lnsB N H).length % 127)) (qwk (by omega))
 rw [k]
 rfl
theorem qrf (N:List Lk) (H:List Nat):(lnsB N H).length = N.length + H.length + 1 :=by
 unfold lnsB
 rw [List.length_cons,List.length_append,List.length_map,List.length_map]
theorem qnx {l r:List (List UInt8)} {i:Nat} (h:i < l.length):gB (l ++ r) i = gB l i :=by
 simp only [gB,List.getD_eq_getElem?_getD,List.getElem?_append_left h]
theorem qyv {N:List Lk} {H:List Nat} {i:Nat} (h:i < N.length):gB (lnsB N H) (i + 1) = lnL (gN N i) :=by
 have:gB (lnsB N H) (i + 1) = gB (N.map lnL ++ H.map lnH) i :=rfl
 rw [this,qnx (by rw [List.length_map];exact h)]
 simp [gB,gN,List.getD,h]
theorem qyw {N:List Lk} {H:List Nat} {i:Nat} (h:i < H.length):gB (lnsB N H) (i + (N.length + 1)) = lnH (gn H i) :=by
 have:gB (lnsB N H) (i + (N.length + 1)) = gB (N.map lnL ++ H.map lnH) (i + N.length) :=rfl
 rw [this]
 simp only [gB,List.getD_eq_getElem?_getD]
 rw [List.getElem?_append_right (by rw [List.length_map];omega),List.length_map,Nat.add_sub_cancel]
 simp [gn,List.getD,h]
structure TxB (s:List UInt8) (N:List Lk) (H:List Nat):Prop where
 ok:okT N H
 hN:N.length < 100
 len:(spl 10 s).length = N.length + H.length + 3
 l0:gB (spl 10 s) 0 = lnM N.length
 lN:∀ i,i < N.length → gB (spl 10 s) (i + 1) = lnL (gN N i)
 lH:∀ i,i < H.length → gB (spl 10 s) (i + (N.length + 1)) = lnH (gn H i)
theorem qkm {N:List Lk} {H:List Nat} (h:okT N H) (hN:N.length < 100):TxB (prtB N H) N H :=by
 obtain ⟨e,he⟩ :=qvn h hN
 have hl :=qrf N H
 refine ⟨h,hN,?_,?_,fun i hi => ?_,fun i hi => ?_⟩
 ·rw [he,List.length_append,hl];rfl
 ·rw [he,qnx (by omega)];rfl
 ·rw [he,qnx (by omega),qyv hi]
 ·rw [he,qnx (by omega),qyw hi]
theorem qo5 {N:List Lk} {H:List Nat} (h:okT N H) {i:Nat} (hi:i < N.length):(gN N i).1 < 100 ∧ (gN N i).2.1 < 100 ∧ (gN N i).2.2 < 100 :=h.1 _ (by simp [gN,List.getD,hi])
theorem qo4 {N:List Lk} {H:List Nat} (h:okT N H) {i:Nat} (hi:i < H.length):gn H i < 100 :=h.2 _ (by simp [gn,List.getD,hi])
theorem qpo {s:List UInt8} {N N':List Lk} {H H':List Nat} (h:TxB s N' H') (h0:N.length < 100 ∧ spl 32 (gB (spl 10 s) 0) = [qpj,dec N.length]) (hm:N.length + H.length + 3 = (spl 10 s).length) (hN:∀ i,i < N.length → ((gN N i).1 < 100 ∧ (gN N i).2.1 < 100 ∧ (gN N i).2.2 < 100) ∧ spl 32 (gB (spl 10 s) (i + 1)) = [qen,dec (gN N i).1,dec (gN N i).2.1,dec (gN N i).2.2]) (hH:∀ i,i < H.length → gn H i < 100 ∧ spl 32 (gB (spl 10 s) (i + (N.length + 1))) = [qfb,dec (gn H i)]):N = N' ∧ H = H' :=by
 have a1:N.length = N'.length :=by
  have :=h0.2
  rw [h.l0,qgf h.hN] at this
  simp only [List.cons.injEq,and_true,true_and] at this
  exact (qe0 _ h.hN _ h0.1 this).symm
 have a2:H.length = H'.length :=by have :=h.len;omega
 refine ⟨List.ext_getElem a1 fun i h1 h2 => ?_,List.ext_getElem a2 fun i h1 h2 => ?_⟩
 ·have k :=(hN i h1)
  have o :=qo5 h.ok h2
  rw [h.lN i h2,qj0 o] at k
  have k2 :=k.2
  simp only [List.cons.injEq,and_true,true_and] at k2
  have e1 :=qe0 _ o.1 _ k.1.1 k2.1
  have e2 :=qe0 _ o.2.1 _ k.1.2.1 k2.2.1
  have e3 :=qe0 _ o.2.2 _ k.1.2.2 k2.2.2
  have g1:gN N i = N[i] :=by simp [gN,List.getD,h1]
  have g2:gN N' i = N'[i] :=by simp [gN,List.getD,h2]
  rw [← g1,← g2]
  exact Prod.ext e1.symm (Prod.ext e2.symm e3.symm)
 ·have k :=(hH i h1)
  have o :=qo4 h.ok h2
  rw [a1,h.lH i h2,qj1 o] at k
  have k2 :=k.2
  simp only [List.cons.injEq,and_true,true_and] at k2
  have e1 :=qe0 _ o _ k.1 k2
  have g1:gn H i = H[i] :=by simp [gn,List.getD,h1]
  have g2:gn H' i = H'[i] :=by simp [gn,List.getD,h2]
  rw [← g1,← g2,e1]
theorem qnc {N N':List Lk} {H H':List Nat} (h:okT N H) (hN:N.length < 100) (h':okT N' H') (hN':N'.length < 100) (e:prtB N H = prtB N' H'):N = N' ∧ H = H' :=by
 have t :=qkm h hN
 have t' :=qkm h' hN'
 rw [← e] at t'
 refine qpo t' ⟨hN,by rw [t.l0,qgf hN]⟩ t.len.symm (fun i hi => ⟨qo5 h hi,by rw [t.lN i hi,qj0 (qo5 h hi)]⟩) fun i hi => ⟨qo4 h hi,by rw [t.lH i hi,qj1 (qo4 h hi)]⟩
theorem qk8 {α:Type} (P:Nat → α → Prop) (d:α):∀ n,(∃ l:List α,l.length = n ∧ ∀ i,i < n → P i (l.getD i d)) ∨ ∃ l:List α,l.length < n ∧ (∀ i,i < l.length → P i (l.getD i d)) ∧ ¬ ∃ a,P l.length a
 | 0 => .inl ⟨[],rfl,fun i h => absurd h (Nat.not_lt_zero _)⟩
 |n + 1 => by
  rcases qk8 P d n with ⟨l,hl,h⟩ | ⟨l,hl,h,hb⟩
  ·by_cases k:∃ a,P n a
   ·obtain ⟨a,ha⟩ :=k
    refine .inl ⟨l ++ [a],by rw [List.length_append,hl];rfl,fun i hi => ?_⟩
    by_cases e:i < n
    ·have:(l ++ [a]).getD i d = l.getD i d :=by
      simp only [List.getD_eq_getElem?_getD]
      rw [List.getElem?_append_left (by omega)]
     rw [this]
     exact h i e
    ·have e2:i = n :=by omega
     have:(l ++ [a]).getD i d = a :=by
      simp only [List.getD_eq_getElem?_getD]
      rw [List.getElem?_append_right (by omega),e2,hl,Nat.sub_self]
      rfl
     rw [this,e2]
     exact ha
   ·exact .inr ⟨l,by omega,by rw [hl];exact h,by rw [hl];exact k⟩
  ·exact .inr ⟨l,by omega,h,hb⟩
theorem qs3 {s why:List UInt8} (hs:s.length ≤ 300) (pz:qci prog 143 [.str (gB (spl 10 s) 0),iv 0,iv 1] (noP why)):qci prog 95 [.str s] (noP why) :=by
 have pS :=qbn s 10 (by omega)
 have lS :=qa1 (spl 10 s)
 have hp:0 < (spl 10 s).length :=by rw [qc9];omega
 obtain ⟨L,hL⟩ : ∃ L,L = spl 10 s :=⟨_,rfl⟩
 rw [← hL] at pz pS lS hp
 have ir:inR 0 L.length = true :=qaj (i :=0) hp
 have n0:nth (stA L) (0:Int).toNat = some (.str (gB L 0)) :=qa9 (l :=L) (i :=0) hp
 refine qbj hE rfl (by repeat' first|exact trivial|assumption|exact qah _|exact fun _ h => nomatch h|apply And.intro) (by simp [noP,Live,Lives]) fun S q pc hS hq hC hE => ?_
 conv => whnf
 repeat ((first|refine qak (nthP n0) ?_|refine qag ir ?_|refine qaf ir ?_|refine pkT ir ?_|refine qaa ir ?_|refine qac hC (pS) ?_|refine qad hS (by kernel_rfl) ?_);conv => whnf)
 refine qau hC ?_
 conv => whnf
 refine qa2 hS (pz) ?_
 conv => whnf
theorem qol {s:List UInt8} {m:Nat} (hs:s.length ≤ 300) (h0:pM (gB (spl 10 s) 0) m) (hm:(spl 10 s).length < m + 3):qci prog 95 [.str s] (noP s) :=by
 have pS :=qbn s 10 (by omega)
 have lS :=qa1 (spl 10 s)
 have hp:0 < (spl 10 s).length :=by rw [qc9];omega
 obtain ⟨L,hL⟩ : ∃ L,L = spl 10 s :=⟨_,rfl⟩
 rw [← hL] at h0 hm pS lS hp
 have p0 :=h0.2
 have hn :=h0.1
 have ir:inR 0 L.length = true :=qaj (i :=0) hp
 have n0:nth (stA L) (0:Int).toNat = some (.str (gB L 0)) :=qa9 (l :=L) (i :=0) hp
 have w3:IntKind.i64.wrap (Int.ofNat m + 3) = Int.ofNat (m + 3) :=qaz (m :=m + 3) (by omega)
 have g3:decide ((L.length:Int) ≥ IntKind.i64.wrap (Int.ofNat m + 3)) = false :=decide_eq_false (by rw [w3];simp only [Int.ofNat_eq_natCast];omega)
 refine qbj hE rfl (by repeat' first|exact trivial|assumption|exact qah _|exact fun _ h => nomatch h|apply And.intro) (by simp [noP,Live,Lives]) fun S q pc hS hq hC hE => ?_
 conv => whnf
 repeat ((first|refine qak (nthP n0) ?_|refine qag ir ?_|refine qaf ir ?_|refine pkT ir ?_|refine qaa ir ?_|refine qac hC (pS) ?_|refine qac hC (p0) ?_|refine qad hS (by kernel_rfl) ?_);conv => whnf)
 refine qau hC ?_
 conv => whnf
 refine qa2 hS (qd9 g3 s) ?_
 conv => whnf
theorem qk6 (c:UInt8) (s:List UInt8) (i:Nat):(gB (spl c s) i).length ≤ s.length :=by
 by_cases h:i < (spl c s).length
 ·have e:gB (spl c s) i = (spl c s)[i] :=by simp [gB,List.getD,h]
  rw [e]
  exact qgx c s _ (List.getElem_mem h)
 ·have e:gB (spl c s) i = [] :=by simp [gB,List.getD,h]
  rw [e];exact Nat.zero_le _
def isT (s:List UInt8) (N:List Lk) (H:List Nat):Prop :=okT N H ∧ N.length < 100 ∧ prtB N H = s
theorem qer {s:List UInt8} (hs:s.length ≤ 300):(∃ N H,isT s N H ∧ Pure prog 95 [.str s] (.agg [xN N,yH H])) ∨ ((¬ ∃ N H,isT s N H) ∧ ∃ why,qci prog 95 [.str s] (noP why)) :=by
 have hg :=qk6 10 s
 rcases qxp (k :=0) qou (s :=gB (spl 10 s) 0) (by have :=hg 0;omega) with ⟨m,hm,e0,q0⟩ | ⟨h0,why,q0⟩
 ·by_cases hf:(spl 10 s).length < m + 3
  ·refine .inr ⟨fun ⟨N,H,o,l,e⟩ => ?_,_,qol hs ⟨hm,q0⟩ hf⟩
   have t :=e ▸ qkm o l
   have k :=t.l0
   rw [k,qgf l] at e0
   simp only [List.cons.injEq,and_true] at e0
   have :=qe0 _ l _ hm e0.2
   have :=t.len
   omega
  ·rcases qk8 (fun i (x:Lk) => (x.1 < 100 ∧ x.2.1 < 100 ∧ x.2.2 < 100) ∧ spl 32 (gB (spl 10 s) (i + 1)) = [qen,dec x.1,dec x.2.1,dec x.2.2] ∧ pL (gB (spl 10 s) (i + 1)) x) (0,0,0) m with ⟨N,hN,h⟩ | ⟨N,hN,h,hb⟩
   ·rcases qk8 (fun i (x:Nat) => x < 100 ∧ spl 32 (gB (spl 10 s) (i + (m + 1))) = [qfb,dec x] ∧ pH (gB (spl 10 s) (i + (m + 1))) x) 0 ((spl 10 s).length - 3 - m) with ⟨H,hH,h2⟩ | ⟨H,hH,h2,hb⟩
    ·subst hN
     have hT:okT N H :=qq0 (a :=N.length + 1) (fun i hi => (h i hi).2.2) (fun i hi => (h2 i (by omega)).2.2)
     by_cases he:prtB N H = s
     ·exact .inl ⟨N,H,⟨hT,hm,he⟩,qqh hs ⟨hm,q0⟩ (by omega) (fun i hi => (h i hi).2.2) (fun i hi => (h2 i (by omega)).2.2) he⟩
     ·refine .inr ⟨fun ⟨N',H',o,l,e⟩ => ?_,_,qqi hs ⟨hm,q0⟩ (by omega) (fun i hi => (h i hi).2.2) (fun i hi => (h2 i (by omega)).2.2) he⟩
      have t :=e ▸ qkm o l
      obtain ⟨u1,u2⟩ :=qpo t ⟨hm,e0⟩ (by omega) (fun i hi => ⟨(h i hi).1,(h i hi).2.1⟩) (fun i hi => ⟨(h2 i (by omega)).1,(h2 i (by omega)).2.1⟩)
      rw [u1,u2] at he
      exact he e
    ·subst hN
     rcases qxp (k :=2) qow (s :=gB (spl 10 s) (H.length + (N.length + 1))) (by have :=hg (H.length + (N.length + 1));omega) with ⟨n,hn,e1,q1⟩ | ⟨h1,why,q1⟩
     ·exact absurd ⟨n,hn,e1,hn,q1⟩ hb
     ·refine .inr ⟨fun ⟨N',H',o,l,e⟩ => ?_,_,qs5 (m :=(spl 10 s).length - 3 - N.length) hs ⟨hm,q0⟩ (by omega) (fun i hi => (h i hi).2.2) (fun i hi => (h2 i hi).2.2) hH q1⟩
      have t :=e ▸ qkm o l
      have k :=t.l0
      rw [k,qgf l] at e0
      simp only [List.cons.injEq,and_true] at e0
      have k2 :=qe0 _ l _ hm e0.2
      have k3 :=t.len
      have k4 :=t.lH H.length (by omega)
      rw [k2] at k4
      refine h1 ⟨gn H' H.length,qo4 o (by omega),?_⟩
      rw [k4]
      exact qj1 (qo4 o (by omega))
   ·rcases qyr (k :=1) qov (s :=gB (spl 10 s) (N.length + 1)) (by have :=hg (N.length + 1);omega) with ⟨a,b,c,hn,e1,q1⟩ | ⟨h1,why,q1⟩
    ·exact absurd ⟨(a,b,c),hn,e1,hn,q1⟩ hb
    ·refine .inr ⟨fun ⟨N',H',o,l,e⟩ => ?_,_,qs4 hs ⟨hm,q0⟩ (by omega) (fun i hi => (h i hi).2.2) hN q1⟩
     have t :=e ▸ qkm o l
     have k :=t.l0
     rw [k,qgf l] at e0
     simp only [List.cons.injEq,and_true] at e0
     have k2 :=qe0 _ l _ hm e0.2
     have k4 :=t.lN N.length (by omega)
     refine h1 ⟨_,_,_,qo5 o (i :=N.length) (by omega),?_⟩
     rw [k4]
     exact qj0 (qo5 o (by omega))
 ·refine .inr ⟨fun ⟨N,H,o,l,e⟩ => ?_,_,qs3 hs q0⟩
  have t :=e ▸ qkm o l
  refine h0 ⟨N.length,l,?_⟩
  rw [t.l0]
  exact qgf l
end
end Go.Abs.Seat
namespace Go.Abs.Seat
noncomputable section
open Go Go.Abs Go.Proofs.Tryz
set_option maxRecDepth 100000
set_option maxHeartbeats 40000000
attribute [local irreducible] IntKind.wrap pEq
theorem qu8 (N:List Lk):LL (xN N) (cL N) :=by
 unfold xN
 by_cases h:N = []
 ·rw [if_pos h];exact .inl ⟨rfl,by rw [h];rfl⟩
 ·rw [if_neg h];exact .inr (by rw [qra])
theorem qu7 (H:List Nat):IL (yH H) (zl H) :=by
 unfold yH
 by_cases h:H = []
 ·rw [if_pos h];exact .inl ⟨rfl,by rw [h];rfl⟩
 ·rw [if_neg h];exact .inr rfl
theorem pcN.x {N:List Lk} {H:List Nat} (h:pcN N H):xN N = nkA N :=if_neg fun z => by have :=h.l1;rw [z] at this;exact absurd this (by decide)
theorem pcN.y {N:List Lk} {H:List Nat} (h:pcN N H):yH H = nl (zl H) :=if_neg fun z => by have :=h.h1;rw [z] at this;exact absurd this (by decide)
theorem qw5 {n:Nat} (h:tN n):n < 100 :=by
 have :=h.2
 omega
theorem pcN.okT {N:List Lk} {H:List Nat} (h:pcN N H):okT N H :=by
 have l5 :=h.l5
 refine ⟨fun x hx => ?_,fun n hn => by have :=(h.hd n hn).2;omega⟩
 obtain ⟨i,hi,e⟩ :=List.getElem_of_mem hx
 have g:gN N i = x :=by rw [← e];simp [gN,List.getD,hi]
 have h1 :=h.ok.wf i hi
 have h2 :=h.ok.t1 i hi
 have h3 :=h.ok.t2 i hi
 rw [g] at h1 h2 h3
 exact ⟨by omega,qw5 h2,qw5 h3⟩
theorem qp9 {N:List Lk} {H:List Nat} (h:pcN N H):Pure prog 42 [.agg [nkA N,nl (zl H)]] (.tup [.str (prtB N H),iv 0]) :=by
 have l5 :=h.l5
 have h4 :=h.h4
 have e :=h.isP
 have pT :=qkn (x :=nkA N) (y :=nl (zl H)) h.okT (by omega) (by omega) (.inr ⟨rfl,fun z => by have :=h.l1;rw [z] at this;exact absurd this (by decide)⟩) (.inr ⟨rfl,fun z => by have :=h.h1;rw [z] at this;exact absurd this (by decide)⟩)
 have lX :=qa5 (cL N)
 have lY :=qav (zl H)
 refine qas hE rfl (by repeat' first|exact trivial|assumption|exact qah _|exact fun _ h => nomatch h|apply And.intro) (by repeat' first|exact trivial|assumption|exact qah _|exact fun _ h => nomatch h|apply And.intro) fun S q pc hS hq hC hE => ?_
 conv => whnf
 repeat ((first|refine qac hC (e) ?_|refine qac hC (pT) ?_|refine qad hS (by kernel_rfl) ?_);conv => whnf)
 exact ⟨_,rfl,Wk.refl _⟩
theorem qr5 (cst:Bool) (s:List UInt8):q0 20 cst (.iface 145 (.agg [.str s])) .nili = some false :=by kernel_rfl
theorem qoi {s:List UInt8} (h:200 < s.length):Pure prog 44 [.str s] (.tup [.agg [.nils,.nils],iv 3]) :=by
 have e:decide ((s.length:Int) > 200) = true :=decide_eq_true (by omega)
 refine qas hE rfl (by repeat' first|exact trivial|assumption|exact qah _|exact fun _ h => nomatch h|apply And.intro) (by repeat' first|exact trivial|assumption|exact qah _|exact fun _ h => nomatch h|apply And.intro) fun S q pc hS hq hC hE => ?_
 conv => whnf
 repeat ((first|refine qag e ?_|refine qaf e ?_|refine pkT e ?_|refine qaa e ?_|refine qad hS (by kernel_rfl) ?_);conv => whnf)
 exact ⟨_,rfl,Wk.refl _⟩
theorem qsu {s:List UInt8} {N:List Lk} {H:List Nat} (hs:s.length ≤ 200) (ht:isT s N H) (h:pcN N H):Pure prog 44 [.str s] (.tup [.agg [nkA N,nl (zl H)],iv 0]) :=by
 have e:decide ((s.length:Int) > 200) = false :=decide_eq_false (by omega)
 obtain ⟨N',H',t',p⟩ | ⟨hn,_⟩ :=qer (s :=s) (by omega)
 ·obtain ⟨rfl,rfl⟩ :=qnc ht.1 ht.2.1 t'.1 t'.2.1 (ht.2.2.trans t'.2.2.symm)
  rw [h.x,h.y] at p
  have q1 :=h.isP
  have lX :=qa5 (cL N)
  have lY :=qav (zl H)
  refine qas hE rfl (by repeat' first|exact trivial|assumption|exact qah _|exact fun _ h => nomatch h|apply And.intro) (by repeat' first|exact trivial|assumption|exact qah _|exact fun _ h => nomatch h|apply And.intro) fun S q pc hS hq hC hE => ?_
  conv => whnf
  repeat ((first|refine qal e ?_|refine qam e ?_|refine pkF e ?_|refine qab e ?_|refine qac hC (p) ?_|refine qac hC (q1) ?_|refine qad hS (by kernel_rfl) ?_);conv => whnf)
  refine qpx hE hS ?_
  conv => whnf
  refine qei hq true qn1 ?_
  conv => whnf
  exact ⟨_,rfl,Wk.refl _⟩
 ·exact absurd ⟨N,H,ht⟩ hn
theorem qp8 {s:List UInt8} {N:List Lk} {H:List Nat} (hs:s.length ≤ 200) (ht:isT s N H) (h:¬ pcOk (cL N) (zl H)):Pure prog 44 [.str s] (.tup [.agg [.nils,.nils],iv 2]) :=by
 have e:decide ((s.length:Int) > 200) = false :=decide_eq_false (by omega)
 obtain ⟨N',H',t',p⟩ | ⟨hn,_⟩ :=qer (s :=s) (by omega)
 ·obtain ⟨rfl,rfl⟩ :=qnc ht.1 ht.2.1 t'.1 t'.2.1 (ht.2.2.trans t'.2.2.symm)
  have hx :=qu8 N
  have hy :=qu7 H
  obtain ⟨v,ev⟩ : ∃ v,v = xN N :=⟨_,rfl⟩
  obtain ⟨w,ew⟩ : ∃ w,w = yH H :=⟨_,rfl⟩
  rw [← ev] at p hx
  rw [← ew] at p hy
  have q1 :=isPiece_pure hx hy
  rw [decide_eq_false h] at q1
  have lX :=hx.no
  have lY :=hy.no
  clear ev ew
  rcases hx with ⟨rfl,_⟩ | rfl <;> rcases hy with ⟨rfl,_⟩ | rfl
  all_goals
   refine qas hE rfl (by repeat' first|exact trivial|assumption|exact qah _|exact fun _ h => nomatch h|apply And.intro) (by repeat' first|exact trivial|assumption|exact qah _|exact fun _ h => nomatch h|apply And.intro) fun S q pc hS hq hC hE => ?_
   conv => whnf
   repeat ((first|refine qal e ?_|refine qam e ?_|refine pkF e ?_|refine qab e ?_|refine qac hC (p) ?_|refine qac hC (q1) ?_|refine qad hS (by kernel_rfl) ?_);conv => whnf)
   refine qpx hE hS ?_
   conv => whnf
   refine qei hq true qn1 ?_
   conv => whnf
   exact ⟨_,rfl,Wk.refl _⟩
 ·exact absurd ⟨N,H,ht⟩ hn
theorem qoh {s:List UInt8} (hs:s.length ≤ 200) (ht:¬ ∃ N H,isT s N H):Pure prog 44 [.str s] (.tup [.agg [.nils,.nils],iv 4]) :=by
 have e:decide ((s.length:Int) > 200) = false :=decide_eq_false (by omega)
 obtain ⟨N',H',t',p⟩ | ⟨_,why,p⟩ :=qer (s :=s) (by omega)
 ·exact absurd ⟨N',H',t'⟩ ht
 ·refine qas hE rfl (by repeat' first|exact trivial|assumption|exact qah _|exact fun _ h => nomatch h|apply And.intro) (by repeat' first|exact trivial|assumption|exact qah _|exact fun _ h => nomatch h|apply And.intro) fun S q pc hS hq hC hE => ?_
  conv => whnf
  repeat ((first|refine qal e ?_|refine qam e ?_|refine pkF e ?_|refine qab e ?_|refine qad hS (by kernel_rfl) ?_);conv => whnf)
  refine qau hC ?_
  conv => whnf
  refine qa2 hS (p) ?_
  conv => whnf
  refine qpx hE hS ?_
  conv => whnf
  refine qei hq false (qr5 _ _) ?_
  conv => whnf
  exact ⟨_,rfl,Wk.refl _⟩
theorem qyp:Pure prog 98 [.str []] (iv (-1)) :=by
 refine qas hE rfl (by repeat' first|exact trivial|assumption|exact qah _|exact fun _ h => nomatch h|apply And.intro) (by repeat' first|exact trivial|assumption|exact qah _|exact fun _ h => nomatch h|apply And.intro) fun S q pc hS hq hC hE => ?_
 conv => whnf
 exact ⟨_,rfl,Wk.refl _⟩
theorem qyo {w:List UInt8} (hl:3 ≤ w.length) (hl2:w.length ≤ 1000):Pure prog 98 [.str w] (iv (-1)) :=by
 have t1:((w.length:Int) == 0) = false :=beq_eq_false_iff_ne.2 (by omega)
 have t2:decide ((w.length:Int) > 2) = true :=decide_eq_true (by omega)
 refine qas hE rfl (by repeat' first|exact trivial|assumption|exact qah _|exact fun _ h => nomatch h|apply And.intro) (by repeat' first|exact trivial|assumption|exact qah _|exact fun _ h => nomatch h|apply And.intro) fun S q pc hS hq hC hE => ?_
 conv => whnf
 repeat ((first|refine qal t1 ?_|refine qam t1 ?_|refine pkF t1 ?_|refine qab t1 ?_|refine qag (gff t1) ?_|refine qaf (gff t1) ?_|refine pkT (gff t1) ?_|refine qaa (gff t1) ?_|refine qag t2 ?_|refine qaf t2 ?_|refine pkT t2 ?_|refine qaa t2 ?_|refine qal (gft t2) ?_|refine qam (gft t2) ?_|refine pkF (gft t2) ?_|refine qab (gft t2) ?_|refine qad hS (by kernel_rfl) ?_);conv => whnf)
 exact ⟨_,rfl,Wk.refl _⟩
theorem qyu {x:Nat} (h:¬ (48 ≤ x ∧ x ≤ 57)):decide (Int.ofNat x < 48) = true ∨ (decide (Int.ofNat x < 48) = false ∧ decide (Int.ofNat x > 57) = true) :=by
 by_cases c:x < 48
 ·exact .inl (decide_eq_true (by simp only [Int.ofNat_eq_natCast];omega))
 ·exact .inr ⟨decide_eq_false (by simp only [Int.ofNat_eq_natCast];omega),decide_eq_true (by simp only [Int.ofNat_eq_natCast];omega)⟩
theorem isdg {x:Nat} (h1:48 ≤ x) (h2:x ≤ 57):decide (Int.ofNat x < 48) = false ∧ decide (Int.ofNat x > 57) = false :=⟨decide_eq_false (by simp only [Int.ofNat_eq_natCast];omega),decide_eq_false (by simp only [Int.ofNat_eq_natCast];omega)⟩
theorem dgu:∀ x,x < 58 → 48 ≤ x → IntKind.i64.wrap (IntKind.u8.wrap (Int.ofNat x - 48)) = Int.ofNat (x - 48) :=by decide +kernel
def vlD (w:List UInt8):Nat → Nat
 | 0 => 0
 |i + 1 => 10 * vlD w i + ((w.getD i 0).toNat - 48)
def dgA (w:List UInt8) (i:Nat):Prop :=∀ j,j < i → 48 ≤ (w.getD j 0).toNat ∧ (w.getD j 0).toNat ≤ 57
theorem qmq {w:List UInt8}:∀ i,dgA w i → i ≤ 2 → vlD w i ≤ 99 ∧ (i ≤ 1 → vlD w i ≤ 9)
 | 0,_,_ => ⟨Nat.zero_le _,fun _ => Nat.zero_le _⟩
 |i + 1,h,hi => by
  have ih :=qmq i (fun j hj => h j (by omega)) (by omega)
  have hd :=h i (Nat.lt_succ_self i)
  have :=ih.2 (by omega)
  rw [vlD]
  refine ⟨by omega,fun h1 => ?_⟩
  obtain rfl:i = 0 :=by omega
  show 10 * 0 + _ ≤ 9
  omega
theorem quc {w:List UInt8} (h1:1 ≤ w.length) (h2:w.length ≤ 2) {v:Int} (hy:dgA w w.length → dec (vlD w w.length) = w → v = Int.ofNat (vlD w w.length)) (hn:¬ (dgA w w.length ∧ dec (vlD w w.length) = w) → v = -1):Pure prog 98 [.str w] (iv v) :=by
 have t1:((w.length:Int) == 0) = false :=beq_eq_false_iff_ne.2 (by omega)
 have t2:decide ((w.length:Int) > 2) = false :=decide_eq_false (by omega)
 refine qas hE rfl (by repeat' first|exact trivial|assumption|exact qah _|exact fun _ h => nomatch h|apply And.intro) (by repeat' first|exact trivial|assumption|exact qah _|exact fun _ h => nomatch h|apply And.intro) fun S q pc hS hq hC hE => ?_
 conv => whnf
 repeat ((first|refine qal t1 ?_|refine qam t1 ?_|refine pkF t1 ?_|refine qab t1 ?_|refine qag (gff t1) ?_|refine qaf (gff t1) ?_|refine pkT (gff t1) ?_|refine qaa (gff t1) ?_|refine qal t2 ?_|refine qam t2 ?_|refine pkF t2 ?_|refine qab t2 ?_|refine qag (gff t2) ?_|refine qaf (gff t2) ?_|refine pkT (gff t2) ?_|refine qaa (gff t2) ?_|refine qad hS (by kernel_rfl) ?_);conv => whnf)
 refine qax hE hS (A :=Nat) [0] (fun i => [(3,nv (vlD w i)),(4,nv i)]) (fun _ => []) (fun _ => []) (fun i => i ≤ w.length ∧ dgA w i) (fun i => w.length - i) 0 (kle rfl) rfl (by refine ⟨rfl,rfl,rfl,rfl,rfl,rfl,0,rfl,?_,?_⟩ <;> repeat' (first|exact trivial|exact rfl|exact wkr rfl|exact wko rfl|exact Nat.zero_le _|exact kle rfl|exact bdq|exact mxI rfl|exact mxS rfl|apply And.intro)) ⟨Nat.zero_le _,fun _ h => absurd h (Nat.not_lt_zero _)⟩ ?_
 intro i ⟨hi,hA⟩ K hK
 obtain rfl:K = 0 :=hK
 conv => whnf
 by_cases hi2:i < w.length
 ·have hi1:IntKind.i64.wrap (Int.ofNat i + 1) = Int.ofNat (i + 1) :=qaz (m :=i + 1) (by omega)
  have hv :=qmq i hA (by omega)
  by_cases hd:48 ≤ (w.getD i 0).toNat ∧ (w.getD i 0).toNat ≤ 57
  ·have t3 :=(isdg hd.1 hd.2).1
   have t4 :=(isdg hd.1 hd.2).2
   have hV:IntKind.i64.wrap (IntKind.i64.wrap (10 * Int.ofNat (vlD w i)) + IntKind.i64.wrap (IntKind.u8.wrap (Int.ofNat (w.getD i 0).toNat - 48))) = Int.ofNat (vlD w (i + 1)) :=by
    rw [dgu _ (show (w.getD i 0).toNat < 58 by omega) hd.1,show IntKind.i64.wrap (10 * Int.ofNat (vlD w i)) = Int.ofNat (10 * vlD w i) from qaz (m :=10 * vlD w i) (by omega),vlD]
    exact qaz (m :=10 * vlD w i + ((w.getD i 0).toNat - 48)) (by omega)
   repeat ((first|refine qak (qco hi2) ?_|refine qag (qae hi2) ?_|refine qaf (qae hi2) ?_|refine pkT (qae hi2) ?_|refine qaa (qae hi2) ?_|refine qal (qae hi2) ?_|refine qam (qae hi2) ?_|refine pkF (qae hi2) ?_|refine qab (qae hi2) ?_|refine qag (qaj hi2) ?_|refine qaf (qaj hi2) ?_|refine pkT (qaj hi2) ?_|refine qaa (qaj hi2) ?_|refine qag t3 ?_|refine qaf t3 ?_|refine pkT t3 ?_|refine qaa t3 ?_|refine qal t3 ?_|refine qam t3 ?_|refine pkF t3 ?_|refine qab t3 ?_|refine qag (gff t3) ?_|refine qaf (gff t3) ?_|refine pkT (gff t3) ?_|refine qaa (gff t3) ?_|refine qag t4 ?_|refine qaf t4 ?_|refine pkT t4 ?_|refine qaa t4 ?_|refine qal t4 ?_|refine qam t4 ?_|refine pkF t4 ?_|refine qab t4 ?_|refine qag (gff t4) ?_|refine qaf (gff t4) ?_|refine pkT (gff t4) ?_|refine qaa (gff t4) ?_|refine qad hS (by kernel_rfl) ?_);conv => whnf)
   exact ⟨i + 1,⟨hi2,fun j hj => by
    by_cases e:j = i
    ·rw [e];exact hd
    ·exact hA j (by omega)⟩,by omega,Nat.le_refl _,(by refine ⟨rfl,rfl,rfl,rfl,rfl,rfl,0,rfl,?_,?_⟩ <;> repeat' (first|exact trivial|exact rfl|exact wkr rfl|exact wko rfl|exact Nat.zero_le _|exact ⟨_,rfl,WkV.int hi1⟩|exact ⟨_,rfl,WkV.int hV⟩|exact kle rfl|exact bdq|exact mxI rfl|exact mxS rfl|apply And.intro))⟩
  ·have hz :=hn fun z => hd (z.1 i hi2)
   refine Or.elim (qyu hd) (fun t => ?_) fun t => ?_
   ·repeat ((first|refine qak (qco hi2) ?_|refine qag (qae hi2) ?_|refine qaf (qae hi2) ?_|refine pkT (qae hi2) ?_|refine qaa (qae hi2) ?_|refine qal (qae hi2) ?_|refine qam (qae hi2) ?_|refine pkF (qae hi2) ?_|refine qab (qae hi2) ?_|refine qag (qaj hi2) ?_|refine qaf (qaj hi2) ?_|refine pkT (qaj hi2) ?_|refine qaa (qaj hi2) ?_|refine qag t ?_|refine qaf t ?_|refine pkT t ?_|refine qaa t ?_|refine qal t ?_|refine qam t ?_|refine pkF t ?_|refine qab t ?_|refine qal (gft t) ?_|refine qam (gft t) ?_|refine pkF (gft t) ?_|refine qab (gft t) ?_|refine qad hS (by kernel_rfl) ?_);conv => whnf)
    exact ⟨_,rfl,wk_i hz.symm⟩
   ·have t3 :=t.1
    have t4 :=t.2
    repeat ((first|refine qak (qco hi2) ?_|refine qag (qae hi2) ?_|refine qaf (qae hi2) ?_|refine pkT (qae hi2) ?_|refine qaa (qae hi2) ?_|refine qal (qae hi2) ?_|refine qam (qae hi2) ?_|refine pkF (qae hi2) ?_|refine qab (qae hi2) ?_|refine qag (qaj hi2) ?_|refine qaf (qaj hi2) ?_|refine pkT (qaj hi2) ?_|refine qaa (qaj hi2) ?_|refine qag t3 ?_|refine qaf t3 ?_|refine pkT t3 ?_|refine qaa t3 ?_|refine qal t3 ?_|refine qam t3 ?_|refine pkF t3 ?_|refine qab t3 ?_|refine qag (gff t3) ?_|refine qaf (gff t3) ?_|refine pkT (gff t3) ?_|refine qaa (gff t3) ?_|refine qag t4 ?_|refine qaf t4 ?_|refine pkT t4 ?_|refine qaa t4 ?_|refine qal t4 ?_|refine qam t4 ?_|refine pkF t4 ?_|refine qab t4 ?_|refine qal (gft t4) ?_|refine qam (gft t4) ?_|refine pkF (gft t4) ?_|refine qab (gft t4) ?_|refine qad hS (by kernel_rfl) ?_);conv => whnf)
    exact ⟨_,rfl,wk_i hz.symm⟩
 ·have hiE:i = w.length :=by omega
  have hv :=qmq i hA (by omega)
  have p1 :=qbd (n :=vlD w i) (by omega)
  refine qab (qbe hi2) ?_
  conv => whnf
  refine .inl ?_
  conv => whnf
  by_cases e:dec (vlD w i) = w
  ·have e2:(!(dec (vlD w i) == w)) = false :=by rw [beq_iff_eq.2 e];rfl
   have hz :=hy (by rw [← hiE];exact hA) (by rw [← hiE];exact e)
   repeat ((first|refine qal e2 ?_|refine qam e2 ?_|refine pkF e2 ?_|refine qab e2 ?_|refine qac hC (p1) ?_|refine qad hS (by kernel_rfl) ?_);conv => whnf)
   exact ⟨_,rfl,wk_i (by rw [hz,hiE])⟩
  ·have e2:(!(dec (vlD w i) == w)) = true :=by rw [beq_eq_false_iff_ne.2 e];rfl
   have hz :=hn fun z => e (by rw [hiE];exact z.2)
   repeat ((first|refine qag e2 ?_|refine qaf e2 ?_|refine pkT e2 ?_|refine qaa e2 ?_|refine qac hC (p1) ?_|refine qad hS (by kernel_rfl) ?_);conv => whnf)
   exact ⟨_,rfl,wk_i hz.symm⟩
theorem qwx:∀ n,n < 100 → vlD (dec n) (dec n).length = n ∧ (dec n).length ≤ 2 ∧ 1 ≤ (dec n).length :=by decide +kernel
theorem qyb:∀ n,n < 100 → ∀ x,x ∈ dec n → 48 ≤ x.toNat ∧ x.toNat ≤ 57 :=by decide +kernel
theorem qdz {n:Nat} (h:n < 100):Pure prog 98 [.str (dec n)] (nv n) :=by
 obtain ⟨e1,e2,e3⟩ :=qwx n h
 refine quc e3 e2 (fun _ _ => by rw [e1]) fun z => absurd ⟨fun j hj => ?_,by rw [e1]⟩ z
 rw [List.getD,List.getElem?_eq_getElem hj]
 exact qyb n h _ (List.getElem_mem hj)
theorem qvh {w:List UInt8} (h:¬ ∃ n,n < 100 ∧ w = dec n) (hw:w.length ≤ 1000):Pure prog 98 [.str w] (iv (-1)) :=by
 by_cases h0:w.length = 0
 ·rw [List.length_eq_zero_iff.1 h0];exact qyp
 ·by_cases h3:3 ≤ w.length
  ·exact qyo h3 hw
  ·refine quc (by omega) (by omega) (fun hA e => absurd ⟨vlD w w.length,?_,e.symm⟩ h) fun _ => rfl
   have :=(qmq w.length hA (by omega)).1
   omega
end
end Go.Abs.Seat
