/-
  A text, as the program reads it.
-/
import Derived.Test.YtlmadgdonalncaaGreatDoorU12
import Derived.Test.YtlmadgdonalncaaGreatDoorU10
import Derived.Test.YtlmadgdonalncaaGreatDoorU11
import Derived.Test.YtlmadgdonalncaaGreatDoorU7
import Derived.Test.YtlmadgdonalncaaGreatDoorU5
import Derived.Test.YtlmadgdonalncaaGreatDoorU6
namespace Go.Abs.Seat
noncomputable section
open Go Go.Abs Go.Proofs.Tryz
set_option maxRecDepth 100000
set_option maxHeartbeats 40000000
attribute [local irreducible] pEq qb0 IntKind.wrap
theorem takN:∀ (n:Nat) (l:List AV),n ≤ l.length → qbo n l = some (l.take n)
 | 0,l,_ => by cases l <;> rfl
 |n + 1,[],h => absurd h (Nat.not_succ_le_zero _)
 |n + 1,x :: r,h => by
  have :=takN n r (Nat.le_of_succ_le_succ h)
  simp only [qbo,this,List.take_succ_cons]
theorem drpN:∀ (n:Nat) (l:List AV),qb4 n l = l.drop n
 | 0,l => by cases l <;> rfl
 |n + 1,[] => rfl
 |n + 1,x :: r => drpN n r
theorem qhq {T:Tr TypeInfo} {t e:TypeId} {inf:TypeInfo} {L:List (List UInt8)} {k1 k2:IntKind} {x y:Int} {a n:Nat} (hT:tyU T t = some (.slice e)) (hi:T.get e = some inf) (h1:inf.size = 1) (hx:x = Int.ofNat a) (hy:y = Int.ofNat (a + n)) (hb:a + n ≤ L.length):qb0 T t (.lst (stA L) L.length .no) (some (.int k1 x)) (some (.int k2 y)) = .chk true (.ret (.lst (stA ((L.drop a).take n)) n .no)) :=by
 subst hx hy
 unfold qb0
 rw [hT]
 have e1:bnd (some (.int k2 (Int.ofNat (a + n)))) L.length L.length = some (a + n) :=by
  have z1:decide ((0:Int) ≤ Int.ofNat (a + n)) = true :=decide_eq_true (Int.natCast_nonneg _)
  have z2:decide (Int.ofNat (a + n) ≤ (L.length:Int)) = true :=decide_eq_true (Int.ofNat_le.2 hb)
  simp only [bnd]
  show (match decide ((0:Int) ≤ Int.ofNat (a + n)) && decide (Int.ofNat (a + n) ≤ (L.length:Int)) with | true => some (Int.ofNat (a + n)).toNat | false => none) = some (a + n)
  rw [z1,z2];rfl
 have e2:bnd (some (.int k1 (Int.ofNat a))) 0 (a + n) = some a :=by
  have z1:decide ((0:Int) ≤ Int.ofNat a) = true :=decide_eq_true (Int.natCast_nonneg _)
  have z2:decide (Int.ofNat a ≤ ((a + n:Nat):Int)) = true :=decide_eq_true (Int.ofNat_le.2 (Nat.le_add_right _ _))
  simp only [bnd]
  show (match decide ((0:Int) ≤ Int.ofNat a) && decide (Int.ofNat a ≤ ((a + n:Nat):Int)) with | true => some (Int.ofNat a).toNat | false => none) = some a
  rw [z1,z2];rfl
 have e3:decide (a * inf.size ≤ (stA L).length) = true :=decide_eq_true (by rw [h1,qik];omega)
 have e4:qbo (n * inf.size) (qb4 (a * inf.size) (stA L)) = some (stA ((L.drop a).take n)) :=by
  rw [h1,Nat.mul_one,Nat.mul_one,drpN,takN _ _ (by rw [List.length_drop,qik];omega)]
  unfold stA
  rw [← List.map_drop,← List.map_take]
 simp only [hi,e1,e2,e3,e4,Nat.add_sub_cancel_left]
def pM (w:List UInt8) (n:Nat):Prop :=n < 100 ∧ Pure prog 143 [.str w,iv 0,iv 1] (nl (zl [n]))
def pL (w:List UInt8) (x:Lk):Prop :=(x.1 < 100 ∧ x.2.1 < 100 ∧ x.2.2 < 100) ∧ Pure prog 143 [.str w,iv 1,iv 3] (nl (zl [x.1,x.2.1,x.2.2]))
def pH (w:List UInt8) (n:Nat):Prop :=n < 100 ∧ Pure prog 143 [.str w,iv 2,iv 1] (nl (zl [n]))
theorem qbb (L:List (List UInt8)) {a n i:Nat} (h:a + n ≤ L.length) (hi:i < n):nth (stA ((L.drop a).take n)) (i * 1) = some (.str (gB L (i + a))) :=by
 have l1:i < ((L.drop a).take n).length :=by rw [List.length_take,List.length_drop];omega
 rw [qe4 l1]
 have e:gB ((L.drop a).take n) i = gB L (i + a) :=by
  simp only [gB,List.getD_eq_getElem?_getD]
  rw [List.getElem?_take_of_lt hi,List.getElem?_drop,Nat.add_comm]
 rw [e]
def xN (N:List Lk):AV :=if N = [] then .nils else nkA N
def yH (H:List Nat):AV :=if H = [] then .nils else nl (zl H)
def lkVb (N:List Lk) (i c:Nat):AV :=.lst (lks (cL (N.take i))) i (.ch c)
def hdV (H:List Nat) (i c:Nat):AV :=.lst (ivs (zl (H.take i))) i (.ch c)
def uxL (i:Nat):List AObj :=[.hole,.hole,.hole,.hole,.hole,.hole,.hole,.hole,.hole,.hole,.hole,.hole,.hole,.hole,.chain i 3 94,.hole,.hole]
def uxH (i:Nat):List AObj :=[.hole,.hole,.hole,.hole,.hole,.hole,.chain i 1 3,.hole,.hole]
theorem qa6 (N:List Lk) (i:Nat) {c n:Nat} (h:c + 1 ≤ n):bd (lkVb N i c) ≤ n :=Nat.max_le.2 ⟨h,qaf (qa5 _)⟩
theorem qck (H:List Nat) (i:Nat) {c n:Nat} (h:c + 1 ≤ n):bd (hdV H i c) ≤ n :=Nat.max_le.2 ⟨h,qaf (qau _)⟩
theorem qvt (N:List Lk):Live noL (xN N) :=by
 unfold xN
 split
 ·trivial
 ·exact qwn _
theorem qvr (H:List Nat):Live noL (yH H) :=by
 unfold yH
 split
 ·trivial
 ·exact nl_no _
theorem qei {v v' w:AV} {ty:Nat} (e:v = v'):AObj.cells (.node v (.node w .nil .nil) .nil) 2 ty = .cells (.node v' (.node w .nil .nil) .nil) 2 ty :=e ▸ rfl
theorem qcv {v v' w:AV} {ty:Nat} (e:v = v'):AObj.cells (.node w (.node v .nil .nil) .nil) 2 ty = .cells (.node w (.node v' .nil .nil) .nil) 2 ty :=e ▸ rfl
theorem ql5 (c:UInt8) (s:List UInt8):(spl c s).length ≤ s.length + 1 :=by
 rw [qgu]
 exact Nat.succ_le_succ List.count_le_length
theorem qgf (N:List Lk) (c:Nat) (h:0 < N.length):AV.lst [nv (gN N 0).1,nv (gN N 0).2.1,nv (gN N 0).2.2] (0 + 1) (.ch c) = lkVb N 1 c :=by
 unfold lkVb
 rw [qko N h];rfl
theorem qi8 (N:List Lk) (c:Nat) {i:Nat} (h:i < N.length):AV.lst (lks (cL (N.take i)) ++ [nv (gN N i).1,nv (gN N i).2.1,nv (gN N i).2.2]) (i + (0 + 1)) (.ch c) = lkVb N (i + 1) c :=by
 unfold lkVb
 rw [qko N h,qna,qlh];rfl
theorem qgh (N:List Lk) {i:Nat} (h:i ≤ N.length):qdn (lks (cL (N.take i))) (i * 3) = true :=by
 have :=qd2 (lks (cL (N.take i)))
 rwa [lks_len,qcx,List.length_take,Nat.min_eq_left h] at this
theorem qet (H:List Nat) (c:Nat) (h:0 < H.length):AV.lst [nv (gn H 0)] (0 + 1) (.ch c) = hdV H 1 c :=by
 unfold hdV
 rw [qij H h];rfl
theorem qfr (H:List Nat) (c:Nat) {i:Nat} (h:i < H.length):AV.lst (ivs (zl (H.take i)) ++ [nv (gn H i)]) (i + (0 + 1)) (.ch c) = hdV H (i + 1) c :=by
 unfold hdV
 rw [qij H h,qs9]
theorem qes (H:List Nat) {i:Nat} (h:i ≤ H.length):qdn (ivs (zl (H.take i))) (i * 1) = true :=by
 have :=qd2 (ivs (zl (H.take i)))
 rw [ivs_len,qcc,List.length_take,Nat.min_eq_left h] at this
 rwa [Nat.mul_one]
theorem qp6 {L:List (List UInt8)} {a:Nat} {N:List Lk} {H:List Nat} (hN:∀ i,i < N.length → pL (gB L (i + 1)) (gN N i)) (hH:∀ i,i < H.length → pH (gB L (i + a)) (gn H i)):okT N H :=by
 refine ⟨fun x hx => ?_,fun n hn => ?_⟩
 ·obtain ⟨i,hi,e⟩ :=List.getElem_of_mem hx
  have :=(hN i hi).1
  rwa [show gN N i = x by rw [← e];simp [gN,List.getD,hi]] at this
 ·obtain ⟨i,hi,e⟩ :=List.getElem_of_mem hn
  have :=(hH i hi).1
  rwa [show gn H i = n by rw [← e];simp [gn,List.getD,hi]] at this
theorem qdb {N:List Lk} {H:List Nat} {v w:AV} {c d:Nat} (h:okT N H) (hN:N.length < 100) (hH:H.length ≤ 400) (hv:v = .nils ∧ N = [] ∨ v = lkVb N N.length c ∧ N ≠ []) (hw:w = .nils ∧ H = [] ∨ w = hdV H H.length d ∧ H ≠ []):Pure prog 90 [.agg [v,w]] (.str (prtB N H)) :=by
 have e1:wk (lkVb N N.length c) = nkA N :=by
  simp only [lkVb,wk,qif,List.take_length]
 have e2:wk (hdV H H.length d) = nl (zl H) :=by
  simp only [hdV,wk,qgl,List.take_length]
  show AV.lst _ _ _ = AV.lst _ (zl H).length _
  rw [qcc]
 refine Pure.ofWk ?_
 have k :=qjs (x :=wk v) (y :=wk w) h hN hH (by
  rcases hv with ⟨rfl,e⟩ | ⟨rfl,e⟩
  ·exact .inl ⟨rfl,e⟩
  ·exact .inr ⟨e1,e⟩) (by
  rcases hw with ⟨rfl,e⟩ | ⟨rfl,e⟩
  ·exact .inl ⟨rfl,e⟩
  ·exact .inr ⟨e2,e⟩)
 exact k
theorem qrs {N:List Lk} {H:List Nat} {v w:AV} {c d:Nat} (hv:v = .nils ∧ N = [] ∨ v = lkVb N N.length c ∧ N ≠ []) (hw:w = .nils ∧ H = [] ∨ w = hdV H H.length d ∧ H ≠ []):Wk (.agg [v,w]) (.agg [xN N,yH H]) :=by
 have e1:wk (lkVb N N.length c) = nkA N :=by
  simp only [lkVb,wk,qif,List.take_length]
 have e2:wk (hdV H H.length d) = nl (zl H) :=by
  simp only [hdV,wk,qgl,List.take_length]
  show AV.lst _ _ _ = AV.lst _ (zl H).length _
  rw [qcc]
 have k :=Wk.wk (.agg [v,w])
 have k1:wk v = xN N :=by
  rcases hv with ⟨rfl,e⟩ | ⟨rfl,e⟩
  ·rw [xN,if_pos e];rfl
  ·rw [xN,if_neg e,e1]
 have k2:wk w = yH H :=by
  rcases hw with ⟨rfl,e⟩ | ⟨rfl,e⟩
  ·rw [yH,if_pos e];rfl
  ·rw [yH,if_neg e,e2]
 rw [← k1,← k2]
 exact k
theorem qpm {s:List UInt8} {N:List Lk} {H:List Nat} (hs:s.length ≤ 300) (h0:pM (gB (spl 10 s) 0) N.length) (hm:N.length + H.length + 3 = (spl 10 s).length) (hN:∀ i,i < N.length → pL (gB (spl 10 s) (i + 1)) (gN N i)) (hH:∀ i,i < H.length → pH (gB (spl 10 s) (i + (N.length + 1))) (gn H i)) (he:prtB N H = s):Pure prog 95 [.str s] (.agg [xN N,yH H]) :=by
 have pS :=qbd s 10 (by omega)
 have lS :=qbp (spl 10 s)
 have hl :=ql5 10 s
 obtain ⟨L,hL⟩ : ∃ L,L = spl 10 s :=⟨_,rfl⟩
 rw [← hL] at h0 hm hN hH pS lS hl
 have p0 :=h0.2
 have hn :=h0.1
 have ir:inR 0 L.length = true :=qaq (i :=0) (by omega)
 have n0:nth (stA L) (0:Int).toNat = some (.str (gB L 0)) :=qe4 (l :=L) (i :=0) (by omega)
 have w3:IntKind.i64.wrap (Int.ofNat N.length + 3) = Int.ofNat (N.length + 3) :=qaz (m :=N.length + 3) (by omega)
 have w1:IntKind.i64.wrap (Int.ofNat N.length + 1) = Int.ofNat (N.length + 1) :=qaz (m :=N.length + 1) (by omega)
 have g3:decide ((L.length:Int) ≥ IntKind.i64.wrap (Int.ofNat N.length + 3)) = true :=decide_eq_true (by rw [w3];simp only [Int.ofNat_eq_natCast];omega)
 have w2:IntKind.i64.wrap ((L.length:Int) - 2) = Int.ofNat (N.length + 1 + H.length) :=by rw [← hm];exact (qev (by omega) (by omega)).trans (by simp only [Int.ofNat_eq_natCast];omega)
 have hT :=qp6 hN hH
 have lX :=qvt N
 have lY :=qvr H
 have te:(prtB N H == s) = true :=beq_iff_eq.2 he
 refine qan hE rfl (by repeat' first|exact trivial|assumption|exact qae _|exact fun _ h => nomatch h|apply And.intro) (by repeat' first|exact trivial|assumption|exact qae _|exact fun _ h => nomatch h|apply And.intro) fun S q pc hS hq hC hE => ?_
 conv => whnf
 repeat ((first|refine qal (nthP n0) ?_|refine qal (qhq (e :=9) (inf :=t9) (L :=L) (a :=1) (n :=N.length) (by kernel_rfl) (by kernel_rfl) (by kernel_rfl) rfl (w1.trans (by rw [Nat.add_comm])) (by omega)) ?_|refine qaj ir ?_|refine qai ir ?_|refine pkT ir ?_|refine qaa ir ?_|refine qab hC (pS) ?_|refine qab hC (p0) ?_|refine qab hC (qdj g3 s) ?_|refine qad hS (by kernel_rfl) ?_);conv => whnf)
 have lT :=qbp ((L.drop 1).take N.length)
 refine qay hE hS (A :=Nat × AV × List AObj) [0,2,3,4,5,30,31] (fun (i,_,_) => [(32,nv i)]) (fun (_,v,_) => [(1,.cells (.node v (.node .nils .nil .nil) .nil) 2 64)]) (fun a => a.2.2) (fun (i,v,ux) => i ≤ N.length ∧ (i = 0 ∧ v = .nils ∧ ux = [] ∨ 0 < i ∧ v = lkVb N i 16 ∧ ux = uxL i)) (fun (i,_,_) => N.length - i) (0,.nils,[]) (kle rfl) rfl (by refine ⟨rfl,rfl,rfl,rfl,rfl,rfl,2,rfl,?_,?_⟩ <;> repeat' (first|exact trivial|exact rfl|exact wkr rfl|exact wko rfl|exact Nat.zero_le _|exact qa6 _ _ (by decide)|exact kle rfl|exact bdq|exact mxI rfl|exact mxS rfl|apply And.intro)) ⟨Nat.zero_le _,.inl ⟨rfl,rfl,rfl⟩⟩ ?_
 rintro ⟨i,v,ux⟩ ⟨hi,hv⟩ K hK
 have hi:i ≤ N.length :=hi
 have lK :=qa5 (cL (N.take i))
 refine Or.elim hv (fun hv => ?_) fun hv => ?_
 ·obtain ⟨rfl,rfl,rfl⟩ :=hv
  obtain rfl:K = 2 :=hK
  conv => whnf
  by_cases hi2:0 < N.length
  ·have hir:0 < N.length :=by omega
   have hi1:IntKind.i64.wrap (Int.ofNat 0 + 1) = Int.ofNat (0 + 1) :=qaz (m :=0 + 1) (by omega)
   have pN :=(hN 0 hi2).2
   have gI :=qbb L (a :=1) (n :=N.length) (i :=0) (by omega) hir
   have e2 :=qgf N 16 hi2
   repeat ((first|refine qal (nthP gI) ?_|refine qaj (qag hir) ?_|refine qai (qag hir) ?_|refine pkT (qag hir) ?_|refine qaa (qag hir) ?_|refine qar (qag hir) ?_|refine qas (qag hir) ?_|refine pkF (qag hir) ?_|refine qac (qag hir) ?_|refine qaj (qaq hir) ?_|refine qai (qaq hir) ?_|refine pkT (qaq hir) ?_|refine qaa (qaq hir) ?_|refine qab hC (pN) ?_|refine qad hS (by kernel_rfl) ?_);conv => whnf)
   exact ⟨(1,lkVb N 1 16,uxL 1),⟨hi2,.inr ⟨Nat.zero_lt_one,rfl,rfl⟩⟩,by show N.length - 1 < N.length - 0;omega,kle rfl,(by refine ⟨rfl,rfl,rfl,rfl,rfl,rfl,19,rfl,?_,?_⟩ <;> repeat' (first|exact trivial|exact rfl|exact wkr rfl|exact wko rfl|exact Nat.zero_le _|exact ⟨_,rfl,WkV.int hi1⟩|exact qei e2|exact qa6 _ _ (by decide)|exact kle rfl|exact bdq|exact mxI rfl|exact mxS rfl|apply And.intro))⟩
  ·have hiE:N.length = 0 :=by omega
   refine qac (qbt hi2) ?_
   conv => whnf
   refine .inl ?_
   conv => whnf
   have eN:N = [] :=by exact List.eq_nil_of_length_eq_zero (by omega)
   repeat ((first|refine qal (qhq (e :=9) (inf :=t9) (L :=L) (a :=N.length + 1) (n :=H.length) (by kernel_rfl) (by kernel_rfl) (by kernel_rfl) w1 w2 (by omega)) ?_|refine qad hS (by kernel_rfl) ?_);conv => whnf)
   have lU :=qbp ((L.drop (N.length + 1)).take H.length)
   have lW :=qa5 (cL (N.take N.length))
   refine qay hE hS (A :=Nat × AV × List AObj) [0,2,3,4,5,61,62] (fun (j,_,_) => [(63,nv j)]) (fun (_,w,_) => [(1,.cells (.node .nils (.node w .nil .nil) .nil) 2 64)]) (fun a => a.2.2) (fun (j,w,ux) => j ≤ H.length ∧ (j = 0 ∧ w = .nils ∧ ux = [] ∨ 0 < j ∧ w = hdV H j 8 ∧ ux = uxH j)) (fun (j,_,_) => H.length - j) (0,.nils,[]) (kle rfl) rfl (by refine ⟨rfl,rfl,rfl,rfl,rfl,rfl,2,rfl,?_,?_⟩ <;> repeat' (first|exact trivial|exact rfl|exact wkr rfl|exact wko rfl|exact Nat.zero_le _|exact qck _ _ (by decide)|exact qa6 _ _ (by decide)|exact kle rfl|exact bdq|exact mxI rfl|exact mxS rfl|apply And.intro)) ⟨Nat.zero_le _,.inl ⟨rfl,rfl,rfl⟩⟩ ?_
   rintro ⟨j,w,ux⟩ ⟨hj,hw⟩ K hK
   have hj:j ≤ H.length :=hj
   have lV :=qau (zl (H.take j))
   refine Or.elim hw (fun hw => ?_) fun hw => ?_
   ·obtain ⟨rfl,rfl,rfl⟩ :=hw
    obtain rfl:K = 2 :=hK
    conv => whnf
    by_cases hj3:0 < H.length
    ·have hjr:0 < H.length :=by omega
     have hj1:IntKind.i64.wrap (Int.ofNat 0 + 1) = Int.ofNat (0 + 1) :=qaz (m :=0 + 1) (by omega)
     have pN :=(hH 0 hj3).2
     have gI :=qbb L (a :=N.length + 1) (n :=H.length) (i :=0) (by omega) hjr
     have e2 :=qet H 8 hj3
     repeat ((first|refine qal (nthP gI) ?_|refine qaj (qag hjr) ?_|refine qai (qag hjr) ?_|refine pkT (qag hjr) ?_|refine qaa (qag hjr) ?_|refine qar (qag hjr) ?_|refine qas (qag hjr) ?_|refine pkF (qag hjr) ?_|refine qac (qag hjr) ?_|refine qaj (qaq hjr) ?_|refine qai (qaq hjr) ?_|refine pkT (qaq hjr) ?_|refine qaa (qaq hjr) ?_|refine qab hC (pN) ?_|refine qad hS (by kernel_rfl) ?_);conv => whnf)
     exact ⟨(1,hdV H 1 8,uxH 1),⟨hj3,.inr ⟨Nat.zero_lt_one,rfl,rfl⟩⟩,by show H.length - 1 < H.length - 0;omega,kle rfl,(by refine ⟨rfl,rfl,rfl,rfl,rfl,rfl,11,rfl,?_,?_⟩ <;> repeat' (first|exact trivial|exact rfl|exact wkr rfl|exact wko rfl|exact Nat.zero_le _|exact ⟨_,rfl,WkV.int hj1⟩|exact e2|exact qcv e2|exact qck _ _ (by decide)|exact qa6 _ _ (by decide)|exact kle rfl|exact bdq|exact mxI rfl|exact mxS rfl|apply And.intro))⟩
    ·have hjE:H.length = 0 :=by omega
     refine qac (qbt hj3) ?_
     conv => whnf
     refine .inl ?_
     conv => whnf
     have eH:H = [] :=by exact List.eq_nil_of_length_eq_zero (by omega)
     have pT :=qdb (c :=16) (d :=8) hT (by omega) (by omega) (.inl ⟨rfl,eN⟩) (.inl ⟨rfl,eH⟩)
     repeat ((first|refine qab hC (pT) ?_|refine qab hC (qdj te s) ?_|refine qad hS (by kernel_rfl) ?_);conv => whnf)
     exact ⟨_,rfl,qrs (c :=16) (d :=8) (.inl ⟨rfl,eN⟩) (.inl ⟨rfl,eH⟩)⟩
   ·obtain ⟨hj2,rfl,rfl⟩ :=hw
    obtain rfl:K = 11 :=hK
    conv => whnf
    by_cases hj3:j < H.length
    ·have hjr:j < H.length :=by omega
     have hj1:IntKind.i64.wrap (Int.ofNat j + 1) = Int.ofNat (j + 1) :=qaz (m :=j + 1) (by omega)
     have pN :=(hH j hj3).2
     have gI :=qbb L (a :=N.length + 1) (n :=H.length) (i :=j) (by omega) hjr
     have d1:decide ((j + (0 + 1)) * 8 ≤ 140737488355328) = true :=decide_eq_true (by omega)
     have d2:decide (j + (0 + 1) ≤ 9223372036854775807) = true :=decide_eq_true (by omega)
     have d4:decide (j = j) = true :=decide_eq_true rfl
     have d5 :=qes H hj
     have e2 :=qfr H 8 hj3
     repeat ((first|refine qal (nthP gI) ?_|refine qaj (qag hjr) ?_|refine qai (qag hjr) ?_|refine pkT (qag hjr) ?_|refine qaa (qag hjr) ?_|refine qar (qag hjr) ?_|refine qas (qag hjr) ?_|refine pkF (qag hjr) ?_|refine qac (qag hjr) ?_|refine qaj (qaq hjr) ?_|refine qai (qaq hjr) ?_|refine pkT (qaq hjr) ?_|refine qaa (qaq hjr) ?_|refine qaj d1 ?_|refine qai d1 ?_|refine pkT d1 ?_|refine qaa d1 ?_|refine qaj d2 ?_|refine qai d2 ?_|refine pkT d2 ?_|refine qaa d2 ?_|refine qaj d4 ?_|refine qai d4 ?_|refine pkT d4 ?_|refine qaa d4 ?_|refine qaj d5 ?_|refine qai d5 ?_|refine pkT d5 ?_|refine qaa d5 ?_|refine qar d5 ?_|refine qas d5 ?_|refine pkF d5 ?_|refine qac d5 ?_|refine qab hC (pN) ?_|refine qad hS (by kernel_rfl) ?_);conv => whnf)
     exact ⟨(j + 1,hdV H (j + 1) 8,uxH (j + 1)),⟨hj3,.inr ⟨Nat.succ_pos _,rfl,rfl⟩⟩,by show H.length - (j + 1) < H.length - j;omega,kle rfl,(by refine ⟨rfl,rfl,rfl,rfl,rfl,rfl,11,rfl,?_,?_⟩ <;> repeat' (first|exact trivial|exact rfl|exact wkr rfl|exact wko rfl|exact Nat.zero_le _|exact ⟨_,rfl,WkV.int hj1⟩|exact e2|exact qcv e2|exact qck _ _ (by decide)|exact qa6 _ _ (by decide)|exact kle rfl|exact bdq|exact mxI rfl|exact mxS rfl|apply And.intro))⟩
    ·have hjE:H.length = j :=by omega
     subst hjE
     refine qac (qbt hj3) ?_
     conv => whnf
     refine .inl ?_
     conv => whnf
     have eH:H ≠ [] :=by intro z;rw [z] at hj2;exact absurd hj2 (Nat.not_lt_zero _)
     have pT :=qdb (c :=16) (d :=8) hT (by omega) (by omega) (.inl ⟨rfl,eN⟩) (.inr ⟨rfl,eH⟩)
     repeat ((first|refine qab hC (pT) ?_|refine qab hC (qdj te s) ?_|refine qad hS (by kernel_rfl) ?_);conv => whnf)
     exact ⟨_,rfl,qrs (c :=16) (d :=8) (.inl ⟨rfl,eN⟩) (.inr ⟨rfl,eH⟩)⟩
 ·obtain ⟨hi9,rfl,rfl⟩ :=hv
  obtain rfl:K = 19 :=hK
  conv => whnf
  by_cases hi2:i < N.length
  ·have hir:i < N.length :=by omega
   have hi1:IntKind.i64.wrap (Int.ofNat i + 1) = Int.ofNat (i + 1) :=qaz (m :=i + 1) (by omega)
   have pN :=(hN i hi2).2
   have gI :=qbb L (a :=1) (n :=N.length) (i :=i) (by omega) hir
   have d1:decide ((i + (0 + 1)) * 24 ≤ 140737488355328) = true :=decide_eq_true (by omega)
   have d2:decide (i + (0 + 1) ≤ 9223372036854775807) = true :=decide_eq_true (by omega)
   have d4:decide (i = i) = true :=decide_eq_true rfl
   have d5 :=qgh N hi
   have e2 :=qi8 N 16 hi2
   repeat ((first|refine qal (nthP gI) ?_|refine qaj (qag hir) ?_|refine qai (qag hir) ?_|refine pkT (qag hir) ?_|refine qaa (qag hir) ?_|refine qar (qag hir) ?_|refine qas (qag hir) ?_|refine pkF (qag hir) ?_|refine qac (qag hir) ?_|refine qaj (qaq hir) ?_|refine qai (qaq hir) ?_|refine pkT (qaq hir) ?_|refine qaa (qaq hir) ?_|refine qaj d1 ?_|refine qai d1 ?_|refine pkT d1 ?_|refine qaa d1 ?_|refine qaj d2 ?_|refine qai d2 ?_|refine pkT d2 ?_|refine qaa d2 ?_|refine qaj d4 ?_|refine qai d4 ?_|refine pkT d4 ?_|refine qaa d4 ?_|refine qaj d5 ?_|refine qai d5 ?_|refine pkT d5 ?_|refine qaa d5 ?_|refine qar d5 ?_|refine qas d5 ?_|refine pkF d5 ?_|refine qac d5 ?_|refine qab hC (pN) ?_|refine qad hS (by kernel_rfl) ?_);conv => whnf)
   exact ⟨(i + 1,lkVb N (i + 1) 16,uxL (i + 1)),⟨hi2,.inr ⟨Nat.succ_pos _,rfl,rfl⟩⟩,by show N.length - (i + 1) < N.length - i;omega,kle rfl,(by refine ⟨rfl,rfl,rfl,rfl,rfl,rfl,19,rfl,?_,?_⟩ <;> repeat' (first|exact trivial|exact rfl|exact wkr rfl|exact wko rfl|exact Nat.zero_le _|exact ⟨_,rfl,WkV.int hi1⟩|exact qei e2|exact qa6 _ _ (by decide)|exact kle rfl|exact bdq|exact mxI rfl|exact mxS rfl|apply And.intro))⟩
  ·have hiE:N.length = i :=by omega
   subst hiE
   refine qac (qbt hi2) ?_
   conv => whnf
   refine .inl ?_
   conv => whnf
   have eN:N ≠ [] :=by intro z;rw [z] at hi9;exact absurd hi9 (Nat.not_lt_zero _)
   repeat ((first|refine qal (qhq (e :=9) (inf :=t9) (L :=L) (a :=N.length + 1) (n :=H.length) (by kernel_rfl) (by kernel_rfl) (by kernel_rfl) w1 w2 (by omega)) ?_|refine qad hS (by kernel_rfl) ?_);conv => whnf)
   have lU :=qbp ((L.drop (N.length + 1)).take H.length)
   have lW :=qa5 (cL (N.take N.length))
   refine qay hE hS (A :=Nat × AV × List AObj) [0,2,3,4,5,61,62] (fun (j,_,_) => [(63,nv j)]) (fun (_,w,_) => [(1,.cells (.node (lkVb N N.length 16) (.node w .nil .nil) .nil) 2 64)]) (fun a => a.2.2) (fun (j,w,ux) => j ≤ H.length ∧ (j = 0 ∧ w = .nils ∧ ux = [] ∨ 0 < j ∧ w = hdV H j 25 ∧ ux = uxH j)) (fun (j,_,_) => H.length - j) (0,.nils,[]) (kle rfl) rfl (by refine ⟨rfl,rfl,rfl,rfl,rfl,rfl,19,rfl,?_,?_⟩ <;> repeat' (first|exact trivial|exact rfl|exact wkr rfl|exact wko rfl|exact Nat.zero_le _|exact qck _ _ (by decide)|exact qa6 _ _ (by decide)|exact kle rfl|exact bdq|exact mxI rfl|exact mxS rfl|apply And.intro)) ⟨Nat.zero_le _,.inl ⟨rfl,rfl,rfl⟩⟩ ?_
   rintro ⟨j,w,ux⟩ ⟨hj,hw⟩ K hK
   have hj:j ≤ H.length :=hj
   have lV :=qau (zl (H.take j))
   refine Or.elim hw (fun hw => ?_) fun hw => ?_
   ·obtain ⟨rfl,rfl,rfl⟩ :=hw
    obtain rfl:K = 19 :=hK
    conv => whnf
    by_cases hj3:0 < H.length
    ·have hjr:0 < H.length :=by omega
     have hj1:IntKind.i64.wrap (Int.ofNat 0 + 1) = Int.ofNat (0 + 1) :=qaz (m :=0 + 1) (by omega)
     have pN :=(hH 0 hj3).2
     have gI :=qbb L (a :=N.length + 1) (n :=H.length) (i :=0) (by omega) hjr
     have e2 :=qet H 25 hj3
     repeat ((first|refine qal (nthP gI) ?_|refine qaj (qag hjr) ?_|refine qai (qag hjr) ?_|refine pkT (qag hjr) ?_|refine qaa (qag hjr) ?_|refine qar (qag hjr) ?_|refine qas (qag hjr) ?_|refine pkF (qag hjr) ?_|refine qac (qag hjr) ?_|refine qaj (qaq hjr) ?_|refine qai (qaq hjr) ?_|refine pkT (qaq hjr) ?_|refine qaa (qaq hjr) ?_|refine qab hC (pN) ?_|refine qad hS (by kernel_rfl) ?_);conv => whnf)
     exact ⟨(1,hdV H 1 25,uxH 1),⟨hj3,.inr ⟨Nat.zero_lt_one,rfl,rfl⟩⟩,by show H.length - 1 < H.length - 0;omega,kle rfl,(by refine ⟨rfl,rfl,rfl,rfl,rfl,rfl,28,rfl,?_,?_⟩ <;> repeat' (first|exact trivial|exact rfl|exact wkr rfl|exact wko rfl|exact Nat.zero_le _|exact ⟨_,rfl,WkV.int hj1⟩|exact e2|exact qcv e2|exact qck _ _ (by decide)|exact qa6 _ _ (by decide)|exact kle rfl|exact bdq|exact mxI rfl|exact mxS rfl|apply And.intro))⟩
    ·have hjE:H.length = 0 :=by omega
     refine qac (qbt hj3) ?_
     conv => whnf
     refine .inl ?_
     conv => whnf
     have eH:H = [] :=by exact List.eq_nil_of_length_eq_zero (by omega)
     have pT :=qdb (c :=16) (d :=25) hT (by omega) (by omega) (.inr ⟨rfl,eN⟩) (.inl ⟨rfl,eH⟩)
     repeat ((first|refine qab hC (pT) ?_|refine qab hC (qdj te s) ?_|refine qad hS (by kernel_rfl) ?_);conv => whnf)
     exact ⟨_,rfl,qrs (c :=16) (d :=25) (.inr ⟨rfl,eN⟩) (.inl ⟨rfl,eH⟩)⟩
   ·obtain ⟨hj2,rfl,rfl⟩ :=hw
    obtain rfl:K = 28 :=hK
    conv => whnf
    by_cases hj3:j < H.length
    ·have hjr:j < H.length :=by omega
     have hj1:IntKind.i64.wrap (Int.ofNat j + 1) = Int.ofNat (j + 1) :=qaz (m :=j + 1) (by omega)
     have pN :=(hH j hj3).2
     have gI :=qbb L (a :=N.length + 1) (n :=H.length) (i :=j) (by omega) hjr
     have d1:decide ((j + (0 + 1)) * 8 ≤ 140737488355328) = true :=decide_eq_true (by omega)
     have d2:decide (j + (0 + 1) ≤ 9223372036854775807) = true :=decide_eq_true (by omega)
     have d4:decide (j = j) = true :=decide_eq_true rfl
     have d5 :=qes H hj
     have e2 :=qfr H 25 hj3
     repeat ((first|refine qal (nthP gI) ?_|refine qaj (qag hjr) ?_|refine qai (qag hjr) ?_|refine pkT (qag hjr) ?_|refine qaa (qag hjr) ?_|refine qar (qag hjr) ?_|refine qas (qag hjr) ?_|refine pkF (qag hjr) ?_|refine qac (qag hjr) ?_|refine qaj (qaq hjr) ?_|refine qai (qaq hjr) ?_|refine pkT (qaq hjr) ?_|refine qaa (qaq hjr) ?_|refine qaj d1 ?_|refine qai d1 ?_|refine pkT d1 ?_|refine qaa d1 ?_|refine qaj d2 ?_|refine qai d2 ?_|refine pkT d2 ?_|refine qaa d2 ?_|refine qaj d4 ?_|refine qai d4 ?_|refine pkT d4 ?_|refine qaa d4 ?_|refine qaj d5 ?_|refine qai d5 ?_|refine pkT d5 ?_|refine qaa d5 ?_|refine qar d5 ?_|refine qas d5 ?_|refine pkF d5 ?_|refine qac d5 ?_|refine qab hC (pN) ?_|refine qad hS (by kernel_rfl) ?_);conv => whnf)
     exact ⟨(j + 1,hdV H (j + 1) 25,uxH (j + 1)),⟨hj3,.inr ⟨Nat.succ_pos _,rfl,rfl⟩⟩,by show H.length - (j + 1) < H.length - j;omega,kle rfl,(by refine ⟨rfl,rfl,rfl,rfl,rfl,rfl,28,rfl,?_,?_⟩ <;> repeat' (first|exact trivial|exact rfl|exact wkr rfl|exact wko rfl|exact Nat.zero_le _|exact ⟨_,rfl,WkV.int hj1⟩|exact e2|exact qcv e2|exact qck _ _ (by decide)|exact qa6 _ _ (by decide)|exact kle rfl|exact bdq|exact mxI rfl|exact mxS rfl|apply And.intro))⟩
    ·have hjE:H.length = j :=by omega
     subst hjE
     refine qac (qbt hj3) ?_
     conv => whnf
     refine .inl ?_
     conv => whnf
     have eH:H ≠ [] :=by intro z;rw [z] at hj2;exact absurd hj2 (Nat.not_lt_zero _)
     have pT :=qdb (c :=16) (d :=25) hT (by omega) (by omega) (.inr ⟨rfl,eN⟩) (.inr ⟨rfl,eH⟩)
     repeat ((first|refine qab hC (pT) ?_|refine qab hC (qdj te s) ?_|refine qad hS (by kernel_rfl) ?_);conv => whnf)
     exact ⟨_,rfl,qrs (c :=16) (d :=25) (.inr ⟨rfl,eN⟩) (.inr ⟨rfl,eH⟩)⟩
theorem qpn {s:List UInt8} {N:List Lk} {H:List Nat} (hs:s.length ≤ 300) (h0:pM (gB (spl 10 s) 0) N.length) (hm:N.length + H.length + 3 = (spl 10 s).length) (hN:∀ i,i < N.length → pL (gB (spl 10 s) (i + 1)) (gN N i)) (hH:∀ i,i < H.length → pH (gB (spl 10 s) (i + (N.length + 1))) (gn H i)) (he:prtB N H ≠ s):qb7 prog 95 [.str s] (noP s) :=by
 have pS :=qbd s 10 (by omega)
 have lS :=qbp (spl 10 s)
 have hl :=ql5 10 s
 obtain ⟨L,hL⟩ : ∃ L,L = spl 10 s :=⟨_,rfl⟩
 rw [← hL] at h0 hm hN hH pS lS hl
 have p0 :=h0.2
 have hn :=h0.1
 have ir:inR 0 L.length = true :=qaq (i :=0) (by omega)
 have n0:nth (stA L) (0:Int).toNat = some (.str (gB L 0)) :=qe4 (l :=L) (i :=0) (by omega)
 have w3:IntKind.i64.wrap (Int.ofNat N.length + 3) = Int.ofNat (N.length + 3) :=qaz (m :=N.length + 3) (by omega)
 have w1:IntKind.i64.wrap (Int.ofNat N.length + 1) = Int.ofNat (N.length + 1) :=qaz (m :=N.length + 1) (by omega)
 have g3:decide ((L.length:Int) ≥ IntKind.i64.wrap (Int.ofNat N.length + 3)) = true :=decide_eq_true (by rw [w3];simp only [Int.ofNat_eq_natCast];omega)
 have w2:IntKind.i64.wrap ((L.length:Int) - 2) = Int.ofNat (N.length + 1 + H.length) :=by rw [← hm];exact (qev (by omega) (by omega)).trans (by simp only [Int.ofNat_eq_natCast];omega)
 have hT :=qp6 hN hH
 have te:(prtB N H == s) = false :=beq_eq_false_iff_ne.2 he
 refine qa8 hE rfl (by repeat' first|exact trivial|assumption|exact qae _|exact fun _ h => nomatch h|apply And.intro) (by simp [noP,Live,Lives]) fun S q pc hS hq hC hE => ?_
 conv => whnf
 repeat ((first|refine qal (nthP n0) ?_|refine qal (qhq (e :=9) (inf :=t9) (L :=L) (a :=1) (n :=N.length) (by kernel_rfl) (by kernel_rfl) (by kernel_rfl) rfl (w1.trans (by rw [Nat.add_comm])) (by omega)) ?_|refine qaj ir ?_|refine qai ir ?_|refine pkT ir ?_|refine qaa ir ?_|refine qab hC (pS) ?_|refine qab hC (p0) ?_|refine qab hC (qdj g3 s) ?_|refine qad hS (by kernel_rfl) ?_);conv => whnf)
 have lT :=qbp ((L.drop 1).take N.length)
 refine qay hE hS (A :=Nat × AV × List AObj) [0,2,3,4,5,30,31] (fun (i,_,_) => [(32,nv i)]) (fun (_,v,_) => [(1,.cells (.node v (.node .nils .nil .nil) .nil) 2 64)]) (fun a => a.2.2) (fun (i,v,ux) => i ≤ N.length ∧ (i = 0 ∧ v = .nils ∧ ux = [] ∨ 0 < i ∧ v = lkVb N i 16 ∧ ux = uxL i)) (fun (i,_,_) => N.length - i) (0,.nils,[]) (kle rfl) rfl (by refine ⟨rfl,rfl,rfl,rfl,rfl,rfl,2,rfl,?_,?_⟩ <;> repeat' (first|exact trivial|exact rfl|exact wkr rfl|exact wko rfl|exact Nat.zero_le _|exact qa6 _ _ (by decide)|exact kle rfl|exact bdq|exact mxI rfl|exact mxS rfl|apply And.intro)) ⟨Nat.zero_le _,.inl ⟨rfl,rfl,rfl⟩⟩ ?_
 rintro ⟨i,v,ux⟩ ⟨hi,hv⟩ K hK
 have hi:i ≤ N.length :=hi
 have lK :=qa5 (cL (N.take i))
 refine Or.elim hv (fun hv => ?_) fun hv => ?_
 ·obtain ⟨rfl,rfl,rfl⟩ :=hv
  obtain rfl:K = 2 :=hK
  conv => whnf
  by_cases hi2:0 < N.length
  ·have hir:0 < N.length :=by omega
   have hi1:IntKind.i64.wrap (Int.ofNat 0 + 1) = Int.ofNat (0 + 1) :=qaz (m :=0 + 1) (by omega)
   have pN :=(hN 0 hi2).2
   have gI :=qbb L (a :=1) (n :=N.length) (i :=0) (by omega) hir
   have e2 :=qgf N 16 hi2
   repeat ((first|refine qal (nthP gI) ?_|refine qaj (qag hir) ?_|refine qai (qag hir) ?_|refine pkT (qag hir) ?_|refine qaa (qag hir) ?_|refine qar (qag hir) ?_|refine qas (qag hir) ?_|refine pkF (qag hir) ?_|refine qac (qag hir) ?_|refine qaj (qaq hir) ?_|refine qai (qaq hir) ?_|refine pkT (qaq hir) ?_|refine qaa (qaq hir) ?_|refine qab hC (pN) ?_|refine qad hS (by kernel_rfl) ?_);conv => whnf)
   exact ⟨(1,lkVb N 1 16,uxL 1),⟨hi2,.inr ⟨Nat.zero_lt_one,rfl,rfl⟩⟩,by show N.length - 1 < N.length - 0;omega,kle rfl,(by refine ⟨rfl,rfl,rfl,rfl,rfl,rfl,19,rfl,?_,?_⟩ <;> repeat' (first|exact trivial|exact rfl|exact wkr rfl|exact wko rfl|exact Nat.zero_le _|exact ⟨_,rfl,WkV.int hi1⟩|exact qei e2|exact qa6 _ _ (by decide)|exact kle rfl|exact bdq|exact mxI rfl|exact mxS rfl|apply And.intro))⟩
  ·have hiE:N.length = 0 :=by omega
   refine qac (qbt hi2) ?_
   conv => whnf
   refine .inl ?_
   conv => whnf
   have eN:N = [] :=by exact List.eq_nil_of_length_eq_zero (by omega)
   repeat ((first|refine qal (qhq (e :=9) (inf :=t9) (L :=L) (a :=N.length + 1) (n :=H.length) (by kernel_rfl) (by kernel_rfl) (by kernel_rfl) w1 w2 (by omega)) ?_|refine qad hS (by kernel_rfl) ?_);conv => whnf)
   have lU :=qbp ((L.drop (N.length + 1)).take H.length)
   have lW :=qa5 (cL (N.take N.length))
   refine qay hE hS (A :=Nat × AV × List AObj) [0,2,3,4,5,61,62] (fun (j,_,_) => [(63,nv j)]) (fun (_,w,_) => [(1,.cells (.node .nils (.node w .nil .nil) .nil) 2 64)]) (fun a => a.2.2) (fun (j,w,ux) => j ≤ H.length ∧ (j = 0 ∧ w = .nils ∧ ux = [] ∨ 0 < j ∧ w = hdV H j 8 ∧ ux = uxH j)) (fun (j,_,_) => H.length - j) (0,.nils,[]) (kle rfl) rfl (by refine ⟨rfl,rfl,rfl,rfl,rfl,rfl,2,rfl,?_,?_⟩ <;> repeat' (first|exact trivial|exact rfl|exact wkr rfl|exact wko rfl|exact Nat.zero_le _|exact qck _ _ (by decide)|exact qa6 _ _ (by decide)|exact kle rfl|exact bdq|exact mxI rfl|exact mxS rfl|apply And.intro)) ⟨Nat.zero_le _,.inl ⟨rfl,rfl,rfl⟩⟩ ?_
   rintro ⟨j,w,ux⟩ ⟨hj,hw⟩ K hK
   have hj:j ≤ H.length :=hj
   have lV :=qau (zl (H.take j))
   refine Or.elim hw (fun hw => ?_) fun hw => ?_
   ·obtain ⟨rfl,rfl,rfl⟩ :=hw
    obtain rfl:K = 2 :=hK
    conv => whnf
    by_cases hj3:0 < H.length
    ·have hjr:0 < H.length :=by omega
     have hj1:IntKind.i64.wrap (Int.ofNat 0 + 1) = Int.ofNat (0 + 1) :=qaz (m :=0 + 1) (by omega)
     have pN :=(hH 0 hj3).2
     have gI :=qbb L (a :=N.length + 1) (n :=H.length) (i :=0) (by omega) hjr
     have e2 :=qet H 8 hj3
     repeat ((first|refine qal (nthP gI) ?_|refine qaj (qag hjr) ?_|refine qai (qag hjr) ?_|refine pkT (qag hjr) ?_|refine qaa (qag hjr) ?_|refine qar (qag hjr) ?_|refine qas (qag hjr) ?_|refine pkF (qag hjr) ?_|refine qac (qag hjr) ?_|refine qaj (qaq hjr) ?_|refine qai (qaq hjr) ?_|refine pkT (qaq hjr) ?_|refine qaa (qaq hjr) ?_|refine qab hC (pN) ?_|refine qad hS (by kernel_rfl) ?_);conv => whnf)
     exact ⟨(1,hdV H 1 8,uxH 1),⟨hj3,.inr ⟨Nat.zero_lt_one,rfl,rfl⟩⟩,by show H.length - 1 < H.length - 0;omega,kle rfl,(by refine ⟨rfl,rfl,rfl,rfl,rfl,rfl,11,rfl,?_,?_⟩ <;> repeat' (first|exact trivial|exact rfl|exact wkr rfl|exact wko rfl|exact Nat.zero_le _|exact ⟨_,rfl,WkV.int hj1⟩|exact e2|exact qcv e2|exact qck _ _ (by decide)|exact qa6 _ _ (by decide)|exact kle rfl|exact bdq|exact mxI rfl|exact mxS rfl|apply And.intro))⟩
    ·have hjE:H.length = 0 :=by omega
     refine qac (qbt hj3) ?_
     conv => whnf
     refine .inl ?_
     conv => whnf
     have eH:H = [] :=by exact List.eq_nil_of_length_eq_zero (by omega)
     have pT :=qdb (c :=16) (d :=8) hT (by omega) (by omega) (.inl ⟨rfl,eN⟩) (.inl ⟨rfl,eH⟩)
     repeat ((first|refine qab hC (pT) ?_|refine qad hS (by kernel_rfl) ?_);conv => whnf)
     refine qap hC ?_
     conv => whnf
     refine qa0 hS (qdx te s) ?_
     conv => whnf
   ·obtain ⟨hj2,rfl,rfl⟩ :=hw
    obtain rfl:K = 11 :=hK
    conv => whnf
    by_cases hj3:j < H.length
    ·have hjr:j < H.length :=by omega
     have hj1:IntKind.i64.wrap (Int.ofNat j + 1) = Int.ofNat (j + 1) :=qaz (m :=j + 1) (by omega)
     have pN :=(hH j hj3).2
     have gI :=qbb L (a :=N.length + 1) (n :=H.length) (i :=j) (by omega) hjr
     have d1:decide ((j + (0 + 1)) * 8 ≤ 140737488355328) = true :=decide_eq_true (by omega)
     have d2:decide (j + (0 + 1) ≤ 9223372036854775807) = true :=decide_eq_true (by omega)
     have d4:decide (j = j) = true :=decide_eq_true rfl
     have d5 :=qes H hj
     have e2 :=qfr H 8 hj3
     repeat ((first|refine qal (nthP gI) ?_|refine qaj (qag hjr) ?_|refine qai (qag hjr) ?_|refine pkT (qag hjr) ?_|refine qaa (qag hjr) ?_|refine qar (qag hjr) ?_|refine qas (qag hjr) ?_|refine pkF (qag hjr) ?_|refine qac (qag hjr) ?_|refine qaj (qaq hjr) ?_|refine qai (qaq hjr) ?_|refine pkT (qaq hjr) ?_|refine qaa (qaq hjr) ?_|refine qaj d1 ?_|refine qai d1 ?_|refine pkT d1 ?_|refine qaa d1 ?_|refine qaj d2 ?_|refine qai d2 ?_|refine pkT d2 ?_|refine qaa d2 ?_|refine qaj d4 ?_|refine qai d4 ?_|refine pkT d4 ?_|refine qaa d4 ?_|refine qaj d5 ?_|refine qai d5 ?_|refine pkT d5 ?_|refine qaa d5 ?_|refine qar d5 ?_|refine qas d5 ?_|refine pkF d5 ?_|refine qac d5 ?_|refine qab hC (pN) ?_|refine qad hS (by kernel_rfl) ?_);conv => whnf)
     exact ⟨(j + 1,hdV H (j + 1) 8,uxH (j + 1)),⟨hj3,.inr ⟨Nat.succ_pos _,rfl,rfl⟩⟩,by show H.length - (j + 1) < H.length - j;omega,kle rfl,(by refine ⟨rfl,rfl,rfl,rfl,rfl,rfl,11,rfl,?_,?_⟩ <;> repeat' (first|exact trivial|exact rfl|exact wkr rfl|exact wko rfl|exact Nat.zero_le _|exact ⟨_,rfl,WkV.int hj1⟩|exact e2|exact qcv e2|exact qck _ _ (by decide)|exact qa6 _ _ (by decide)|exact kle rfl|exact bdq|exact mxI rfl|exact mxS rfl|apply And.intro))⟩
    ·have hjE:H.length = j :=by omega
     subst hjE
     refine qac (qbt hj3) ?_
     conv => whnf
     refine .inl ?_
     conv => whnf
     have eH:H ≠ [] :=by intro z;rw [z] at hj2;exact absurd hj2 (Nat.not_lt_zero _)
     have pT :=qdb (c :=16) (d :=8) hT (by omega) (by omega) (.inl ⟨rfl,eN⟩) (.inr ⟨rfl,eH⟩)
     repeat ((first|refine qab hC (pT) ?_|refine qad hS (by kernel_rfl) ?_);conv => whnf)
     refine qap hC ?_
     conv => whnf
     refine qa0 hS (qdx te s) ?_
     conv => whnf
 ·obtain ⟨hi9,rfl,rfl⟩ :=hv
  obtain rfl:K = 19 :=hK
  conv => whnf
  by_cases hi2:i < N.length
  ·have hir:i < N.length :=by omega
   have hi1:IntKind.i64.wrap (Int.ofNat i + 1) = Int.ofNat (i + 1) :=qaz (m :=i + 1) (by omega)
   have pN :=(hN i hi2).2
   have gI :=qbb L (a :=1) (n :=N.length) (i :=i) (by omega) hir
   have d1:decide ((i + (0 + 1)) * 24 ≤ 140737488355328) = true :=decide_eq_true (by omega)
   have d2:decide (i + (0 + 1) ≤ 9223372036854775807) = true :=decide_eq_true (by omega)
   have d4:decide (i = i) = true :=decide_eq_true rfl
   have d5 :=qgh N hi
   have e2 :=qi8 N 16 hi2
   repeat ((first|refine qal (nthP gI) ?_|refine qaj (qag hir) ?_|refine qai (qag hir) ?_|refine pkT (qag hir) ?_|refine qaa (qag hir) ?_|refine qar (qag hir) ?_|refine qas (qag hir) ?_|refine pkF (qag hir) ?_|refine qac (qag hir) ?_|refine qaj (qaq hir) ?_|refine qai (qaq hir) ?_|refine pkT (qaq hir) ?_|refine qaa (qaq hir) ?_|refine qaj d1 ?_|refine qai d1 ?_|refine pkT d1 ?_|refine qaa d1 ?_|refine qaj d2 ?_|refine qai d2 ?_|refine pkT d2 ?_|refine qaa d2 ?_|refine qaj d4 ?_|refine qai d4 ?_|refine pkT d4 ?_|refine qaa d4 ?_|refine qaj d5 ?_|refine qai d5 ?_|refine pkT d5 ?_|refine qaa d5 ?_|refine qar d5 ?_|refine qas d5 ?_|refine pkF d5 ?_|refine qac d5 ?_|refine qab hC (pN) ?_|refine qad hS (by kernel_rfl) ?_);conv => whnf)
   exact ⟨(i + 1,lkVb N (i + 1) 16,uxL (i + 1)),⟨hi2,.inr ⟨Nat.succ_pos _,rfl,rfl⟩⟩,by show N.length - (i + 1) < N.length - i;omega,kle rfl,(by refine ⟨rfl,rfl,rfl,rfl,rfl,rfl,19,rfl,?_,?_⟩ <;> repeat' (first|exact trivial|exact rfl|exact wkr rfl|exact wko rfl|exact Nat.zero_le _|exact ⟨_,rfl,WkV.int hi1⟩|exact qei e2|exact qa6 _ _ (by decide)|exact kle rfl|exact bdq|exact mxI rfl|exact mxS rfl|apply And.intro))⟩
  ·have hiE:N.length = i :=by omega
   subst hiE
   refine qac (qbt hi2) ?_
   conv => whnf
   refine .inl ?_
   conv => whnf
   have eN:N ≠ [] :=by intro z;rw [z] at hi9;exact absurd hi9 (Nat.not_lt_zero _)
   repeat ((first|refine qal (qhq (e :=9) (inf :=t9) (L :=L) (a :=N.length + 1) (n :=H.length) (by kernel_rfl) (by kernel_rfl) (by kernel_rfl) w1 w2 (by omega)) ?_|refine qad hS (by kernel_rfl) ?_);conv => whnf)
   have lU :=qbp ((L.drop (N.length + 1)).take H.length)
   have lW :=qa5 (cL (N.take N.length))
   refine qay hE hS (A :=Nat × AV × List AObj) [0,2,3,4,5,61,62] (fun (j,_,_) => [(63,nv j)]) (fun (_,w,_) => [(1,.cells (.node (lkVb N N.length 16) (.node w .nil .nil) .nil) 2 64)]) (fun a => a.2.2) (fun (j,w,ux) => j ≤ H.length ∧ (j = 0 ∧ w = .nils ∧ ux = [] ∨ 0 < j ∧ w = hdV H j 25 ∧ ux = uxH j)) (fun (j,_,_) => H.length - j) (0,.nils,[]) (kle rfl) rfl (by refine ⟨rfl,rfl,rfl,rfl,rfl,rfl,19,rfl,?_,?_⟩ <;> repeat' (first|exact trivial|exact rfl|exact wkr rfl|exact wko rfl|exact Nat.zero_le _|exact qck _ _ (by decide)|exact qa6 _ _ (by decide)|exact kle rfl|exact bdq|exact mxI rfl|exact mxS rfl|apply And.intro)) ⟨Nat.zero_le _,.inl ⟨rfl,rfl,rfl⟩⟩ ?_
   rintro ⟨j,w,ux⟩ ⟨hj,hw⟩ K hK
   have hj:j ≤ H.length :=hj
   have lV :=qau (zl (H.take j))
   refine Or.elim hw (fun hw => ?_) fun hw => ?_
   ·obtain ⟨rfl,rfl,rfl⟩ :=hw
    obtain rfl:K = 19 :=hK
    conv => whnf
    by_cases hj3:0 < H.length
    ·have hjr:0 < H.length :=by omega
     have hj1:IntKind.i64.wrap (Int.ofNat 0 + 1) = Int.ofNat (0 + 1) :=qaz (m :=0 + 1) (by omega)
     have pN :=(hH 0 hj3).2
     have gI :=qbb L (a :=N.length + 1) (n :=H.length) (i :=0) (by omega) hjr
     have e2 :=qet H 25 hj3
     repeat ((first|refine qal (nthP gI) ?_|refine qaj (qag hjr) ?_|refine qai (qag hjr) ?_|refine pkT (qag hjr) ?_|refine qaa (qag hjr) ?_|refine qar (qag hjr) ?_|refine qas (qag hjr) ?_|refine pkF (qag hjr) ?_|refine qac (qag hjr) ?_|refine qaj (qaq hjr) ?_|refine qai (qaq hjr) ?_|refine pkT (qaq hjr) ?_|refine qaa (qaq hjr) ?_|refine qab hC (pN) ?_|refine qad hS (by kernel_rfl) ?_);conv => whnf)
     exact ⟨(1,hdV H 1 25,uxH 1),⟨hj3,.inr ⟨Nat.zero_lt_one,rfl,rfl⟩⟩,by show H.length - 1 < H.length - 0;omega,kle rfl,(by refine ⟨rfl,rfl,rfl,rfl,rfl,rfl,28,rfl,?_,?_⟩ <;> repeat' (first|exact trivial|exact rfl|exact wkr rfl|exact wko rfl|exact Nat.zero_le _|exact ⟨_,rfl,WkV.int hj1⟩|exact e2|exact qcv e2|exact qck _ _ (by decide)|exact qa6 _ _ (by decide)|exact kle rfl|exact bdq|exact mxI rfl|exact mxS rfl|apply And.intro))⟩
    ·have hjE:H.length = 0 :=by omega
     refine qac (qbt hj3) ?_
     conv => whnf
     refine .inl ?_
     conv => whnf
     have eH:H = [] :=by exact List.eq_nil_of_length_eq_zero (by omega)
     have pT :=qdb (c :=16) (d :=25) hT (by omega) (by omega) (.inr ⟨rfl,eN⟩) (.inl ⟨rfl,eH⟩)
     repeat ((first|refine qab hC (pT) ?_|refine qad hS (by kernel_rfl) ?_);conv => whnf)
     refine qap hC ?_
     conv => whnf
     refine qa0 hS (qdx te s) ?_
     conv => whnf
   ·obtain ⟨hj2,rfl,rfl⟩ :=hw
    obtain rfl:K = 28 :=hK
    conv => whnf
    by_cases hj3:j < H.length
    ·have hjr:j < H.length :=by omega
     have hj1:IntKind.i64.wrap (Int.ofNat j + 1) = Int.ofNat (j + 1) :=qaz (m :=j + 1) (by omega)
     have pN :=(hH j hj3).2
     have gI :=qbb L (a :=N.length + 1) (n :=H.length) (i :=j) (by omega) hjr
     have d1:decide ((j + (0 + 1)) * 8 ≤ 140737488355328) = true :=decide_eq_true (by omega)
     have d2:decide (j + (0 + 1) ≤ 9223372036854775807) = true :=decide_eq_true (by omega)
     have d4:decide (j = j) = true :=decide_eq_true rfl
     have d5 :=qes H hj
     have e2 :=qfr H 25 hj3
     repeat ((first|refine qal (nthP gI) ?_|refine qaj (qag hjr) ?_|refine qai (qag hjr) ?_|refine pkT (qag hjr) ?_|refine qaa (qag hjr) ?_|refine qar (qag hjr) ?_|refine qas (qag hjr) ?_|refine pkF (qag hjr) ?_|refine qac (qag hjr) ?_|refine qaj (qaq hjr) ?_|refine qai (qaq hjr) ?_|refine pkT (qaq hjr) ?_|refine qaa (qaq hjr) ?_|refine qaj d1 ?_|refine qai d1 ?_|refine pkT d1 ?_|refine qaa d1 ?_|refine qaj d2 ?_|refine qai d2 ?_|refine pkT d2 ?_|refine qaa d2 ?_|refine qaj d4 ?_|refine qai d4 ?_|refine pkT d4 ?_|refine qaa d4 ?_|refine qaj d5 ?_|refine qai d5 ?_|refine pkT d5 ?_|refine qaa d5 ?_|refine qar d5 ?_|refine qas d5 ?_|refine pkF d5 ?_|refine qac d5 ?_|refine qab hC (pN) ?_|refine qad hS (by kernel_rfl) ?_);conv => whnf)
     exact ⟨(j + 1,hdV H (j + 1) 25,uxH (j + 1)),⟨hj3,.inr ⟨Nat.succ_pos _,rfl,rfl⟩⟩,by show H.length - (j + 1) < H.length - j;omega,kle rfl,(by refine ⟨rfl,rfl,rfl,rfl,rfl,rfl,28,rfl,?_,?_⟩ <;> repeat' (first|exact trivial|exact rfl|exact wkr rfl|exact wko rfl|exact Nat.zero_le _|exact ⟨_,rfl,WkV.int hj1⟩|exact e2|exact qcv e2|exact qck _ _ (by decide)|exact qa6 _ _ (by decide)|exact kle rfl|exact bdq|exact mxI rfl|exact mxS rfl|apply And.intro))⟩
    ·have hjE:H.length = j :=by omega
     subst hjE
     refine qac (qbt hj3) ?_
     conv => whnf
     refine .inl ?_
     conv => whnf
     have eH:H ≠ [] :=by intro z;rw [z] at hj2;exact absurd hj2 (Nat.not_lt_zero _)
     have pT :=qdb (c :=16) (d :=25) hT (by omega) (by omega) (.inr ⟨rfl,eN⟩) (.inr ⟨rfl,eH⟩)
     repeat ((first|refine qab hC (pT) ?_|refine qad hS (by kernel_rfl) ?_);conv => whnf)
     refine qap hC ?_
     conv => whnf
     refine qa0 hS (qdx te s) ?_
     conv => whnf
theorem qsa {s why:List UInt8} {N:List Lk} {m:Nat} (hs:s.length ≤ 300) (h0:pM (gB (spl 10 s) 0) m) (hm:m + 3 ≤ (spl 10 s).length) (hN:∀ i,i < N.length → pL (gB (spl 10 s) (i + 1)) (gN N i)) (hz:N.length < m) (pz:qb7 prog 143 [.str (gB (spl 10 s) (N.length + 1)),iv 1,iv 3] (noP why)):qb7 prog 95 [.str s] (noP why) :=by
 have pS :=qbd s 10 (by omega)
 have lS :=qbp (spl 10 s)
 have hl :=ql5 10 s
 obtain ⟨L,hL⟩ : ∃ L,L = spl 10 s :=⟨_,rfl⟩
 rw [← hL] at h0 hm hN pz pS lS hl
 have p0 :=h0.2
 have hn :=h0.1
 have ir:inR 0 L.length = true :=qaq (i :=0) (by omega)
 have n0:nth (stA L) (0:Int).toNat = some (.str (gB L 0)) :=qe4 (l :=L) (i :=0) (by omega)
 have w3:IntKind.i64.wrap (Int.ofNat m + 3) = Int.ofNat (m + 3) :=qaz (m :=m + 3) (by omega)
 have w1:IntKind.i64.wrap (Int.ofNat m + 1) = Int.ofNat (m + 1) :=qaz (m :=m + 1) (by omega)
 have g3:decide ((L.length:Int) ≥ IntKind.i64.wrap (Int.ofNat m + 3)) = true :=decide_eq_true (by rw [w3];simp only [Int.ofNat_eq_natCast];omega)
 refine qa8 hE rfl (by repeat' first|exact trivial|assumption|exact qae _|exact fun _ h => nomatch h|apply And.intro) (by simp [noP,Live,Lives]) fun S q pc hS hq hC hE => ?_
 conv => whnf
 repeat ((first|refine qal (nthP n0) ?_|refine qal (qhq (e :=9) (inf :=t9) (L :=L) (a :=1) (n :=m) (by kernel_rfl) (by kernel_rfl) (by kernel_rfl) rfl (w1.trans (by rw [Nat.add_comm])) (by omega)) ?_|refine qaj ir ?_|refine qai ir ?_|refine pkT ir ?_|refine qaa ir ?_|refine qab hC (pS) ?_|refine qab hC (p0) ?_|refine qab hC (qdj g3 s) ?_|refine qad hS (by kernel_rfl) ?_);conv => whnf)
 have lT :=qbp ((L.drop 1).take m)
 refine qay hE hS (A :=Nat × AV × List AObj) [0,2,3,4,5,30,31] (fun (i,_,_) => [(32,nv i)]) (fun (_,v,_) => [(1,.cells (.node v (.node .nils .nil .nil) .nil) 2 64)]) (fun a => a.2.2) (fun (i,v,ux) => i ≤ N.length ∧ (i = 0 ∧ v = .nils ∧ ux = [] ∨ 0 < i ∧ v = lkVb N i 16 ∧ ux = uxL i)) (fun (i,_,_) => N.length - i) (0,.nils,[]) (kle rfl) rfl (by refine ⟨rfl,rfl,rfl,rfl,rfl,rfl,2,rfl,?_,?_⟩ <;> repeat' (first|exact trivial|exact rfl|exact wkr rfl|exact wko rfl|exact Nat.zero_le _|exact qa6 _ _ (by decide)|exact kle rfl|exact bdq|exact mxI rfl|exact mxS rfl|apply And.intro)) ⟨Nat.zero_le _,.inl ⟨rfl,rfl,rfl⟩⟩ ?_
 rintro ⟨i,v,ux⟩ ⟨hi,hv⟩ K hK
 have hi:i ≤ N.length :=hi
 have lK :=qa5 (cL (N.take i))
 refine Or.elim hv (fun hv => ?_) fun hv => ?_
 ·obtain ⟨rfl,rfl,rfl⟩ :=hv
  obtain rfl:K = 2 :=hK
  conv => whnf
  by_cases hi2:0 < N.length
  ·have hir:0 < m :=by omega
   have hi1:IntKind.i64.wrap (Int.ofNat 0 + 1) = Int.ofNat (0 + 1) :=qaz (m :=0 + 1) (by omega)
   have pN :=(hN 0 hi2).2
   have gI :=qbb L (a :=1) (n :=m) (i :=0) (by omega) hir
   have e2 :=qgf N 16 hi2
   repeat ((first|refine qal (nthP gI) ?_|refine qaj (qag hir) ?_|refine qai (qag hir) ?_|refine pkT (qag hir) ?_|refine qaa (qag hir) ?_|refine qar (qag hir) ?_|refine qas (qag hir) ?_|refine pkF (qag hir) ?_|refine qac (qag hir) ?_|refine qaj (qaq hir) ?_|refine qai (qaq hir) ?_|refine pkT (qaq hir) ?_|refine qaa (qaq hir) ?_|refine qab hC (pN) ?_|refine qad hS (by kernel_rfl) ?_);conv => whnf)
   exact ⟨(1,lkVb N 1 16,uxL 1),⟨hi2,.inr ⟨Nat.zero_lt_one,rfl,rfl⟩⟩,by show N.length - 1 < N.length - 0;omega,kle rfl,(by refine ⟨rfl,rfl,rfl,rfl,rfl,rfl,19,rfl,?_,?_⟩ <;> repeat' (first|exact trivial|exact rfl|exact wkr rfl|exact wko rfl|exact Nat.zero_le _|exact ⟨_,rfl,WkV.int hi1⟩|exact qei e2|exact qa6 _ _ (by decide)|exact kle rfl|exact bdq|exact mxI rfl|exact mxS rfl|apply And.intro))⟩
  ·have hiE:N.length = 0 :=by omega
   rw [hiE] at hz pz
   have gI :=qbb L (a :=1) (n :=m) (i :=0) (by omega) hz
   repeat ((first|refine qal (nthP gI) ?_|refine qaj (qag hz) ?_|refine qai (qag hz) ?_|refine pkT (qag hz) ?_|refine qaa (qag hz) ?_|refine qar (qag hz) ?_|refine qas (qag hz) ?_|refine pkF (qag hz) ?_|refine qac (qag hz) ?_|refine qaj (qaq hz) ?_|refine qai (qaq hz) ?_|refine pkT (qaq hz) ?_|refine qaa (qaq hz) ?_|refine qad hS (by kernel_rfl) ?_);conv => whnf)
   refine qap hC ?_
   conv => whnf
   refine qa0 hS (pz) ?_
   conv => whnf
 ·obtain ⟨hi9,rfl,rfl⟩ :=hv
  obtain rfl:K = 19 :=hK
  conv => whnf
  by_cases hi2:i < N.length
  ·have hir:i < m :=by omega
   have hi1:IntKind.i64.wrap (Int.ofNat i + 1) = Int.ofNat (i + 1) :=qaz (m :=i + 1) (by omega)
   have pN :=(hN i hi2).2
   have gI :=qbb L (a :=1) (n :=m) (i :=i) (by omega) hir
   have d1:decide ((i + (0 + 1)) * 24 ≤ 140737488355328) = true :=decide_eq_true (by omega)
   have d2:decide (i + (0 + 1) ≤ 9223372036854775807) = true :=decide_eq_true (by omega)
   have d4:decide (i = i) = true :=decide_eq_true rfl
   have d5 :=qgh N hi
   have e2 :=qi8 N 16 hi2
   repeat ((first|refine qal (nthP gI) ?_|refine qaj (qag hir) ?_|refine qai (qag hir) ?_|refine pkT (qag hir) ?_|refine qaa (qag hir) ?_|refine qar (qag hir) ?_|refine qas (qag hir) ?_|refine pkF (qag hir) ?_|refine qac (qag hir) ?_|refine qaj (qaq hir) ?_|refine qai (qaq hir) ?_|refine pkT (qaq hir) ?_|refine qaa (qaq hir) ?_|refine qaj d1 ?_|refine qai d1 ?_|refine pkT d1 ?_|refine qaa d1 ?_|refine qaj d2 ?_|refine qai d2 ?_|refine pkT d2 ?_|refine qaa d2 ?_|refine qaj d4 ?_|refine qai d4 ?_|refine pkT d4 ?_|refine qaa d4 ?_|refine qaj d5 ?_|refine qai d5 ?_|refine pkT d5 ?_|refine qaa d5 ?_|refine qar d5 ?_|refine qas d5 ?_|refine pkF d5 ?_|refine qac d5 ?_|refine qab hC (pN) ?_|refine qad hS (by kernel_rfl) ?_);conv => whnf)
   exact ⟨(i + 1,lkVb N (i + 1) 16,uxL (i + 1)),⟨hi2,.inr ⟨Nat.succ_pos _,rfl,rfl⟩⟩,by show N.length - (i + 1) < N.length - i;omega,kle rfl,(by refine ⟨rfl,rfl,rfl,rfl,rfl,rfl,19,rfl,?_,?_⟩ <;> repeat' (first|exact trivial|exact rfl|exact wkr rfl|exact wko rfl|exact Nat.zero_le _|exact ⟨_,rfl,WkV.int hi1⟩|exact qei e2|exact qa6 _ _ (by decide)|exact kle rfl|exact bdq|exact mxI rfl|exact mxS rfl|apply And.intro))⟩
  ·have hiE:N.length = i :=by omega
   rw [hiE] at hz pz
   have gI :=qbb L (a :=1) (n :=m) (i :=i) (by omega) hz
   repeat ((first|refine qal (nthP gI) ?_|refine qaj (qag hz) ?_|refine qai (qag hz) ?_|refine pkT (qag hz) ?_|refine qaa (qag hz) ?_|refine qar (qag hz) ?_|refine qas (qag hz) ?_|refine pkF (qag hz) ?_|refine qac (qag hz) ?_|refine qaj (qaq hz) ?_|refine qai (qaq hz) ?_|refine pkT (qaq hz) ?_|refine qaa (qaq hz) ?_|refine qad hS (by kernel_rfl) ?_);conv => whnf)
   refine qap hC ?_
   conv => whnf
   refine qa0 hS (pz) ?_
   conv => whnf
theorem qsb {s why:List UInt8} {N:List Lk} {H:List Nat} {m:Nat} (hs:s.length ≤ 300) (h0:pM (gB (spl 10 s) 0) N.length) (hm:N.length + m + 3 = (spl 10 s).length) (hN:∀ i,i < N.length → pL (gB (spl 10 s) (i + 1)) (gN N i)) (hH:∀ i,i < H.length → pH (gB (spl 10 s) (i + (N.length + 1))) (gn H i)) (hz:H.length < m) (pz:qb7 prog 143 [.str (gB (spl 10 s) (H.length + (N.length + 1))),iv 2,iv 1] (noP why)):qb7 prog 95 [.str s] (noP why) :=by
 have pS :=qbd s 10 (by omega)
 have lS :=qbp (spl 10 s)
 have hl :=ql5 10 s
 obtain ⟨L,hL⟩ : ∃ L,L = spl 10 s :=⟨_,rfl⟩
 rw [← hL] at h0 hm hN hH pz pS lS hl
 have p0 :=h0.2
 have hn :=h0.1
 have ir:inR 0 L.length = true :=qaq (i :=0) (by omega)
 have n0:nth (stA L) (0:Int).toNat = some (.str (gB L 0)) :=qe4 (l :=L) (i :=0) (by omega)
 have w3:IntKind.i64.wrap (Int.ofNat N.length + 3) = Int.ofNat (N.length + 3) :=qaz (m :=N.length + 3) (by omega)
 have w1:IntKind.i64.wrap (Int.ofNat N.length + 1) = Int.ofNat (N.length + 1) :=qaz (m :=N.length + 1) (by omega)
 have g3:decide ((L.length:Int) ≥ IntKind.i64.wrap (Int.ofNat N.length + 3)) = true :=decide_eq_true (by rw [w3];simp only [Int.ofNat_eq_natCast];omega)
 have w2:IntKind.i64.wrap ((L.length:Int) - 2) = Int.ofNat (N.length + 1 + m) :=by rw [← hm];exact (qev (by omega) (by omega)).trans (by simp only [Int.ofNat_eq_natCast];omega)
 refine qa8 hE rfl (by repeat' first|exact trivial|assumption|exact qae _|exact fun _ h => nomatch h|apply And.intro) (by simp [noP,Live,Lives]) fun S q pc hS hq hC hE => ?_
 conv => whnf
 repeat ((first|refine qal (nthP n0) ?_|refine qal (qhq (e :=9) (inf :=t9) (L :=L) (a :=1) (n :=N.length) (by kernel_rfl) (by kernel_rfl) (by kernel_rfl) rfl (w1.trans (by rw [Nat.add_comm])) (by omega)) ?_|refine qaj ir ?_|refine qai ir ?_|refine pkT ir ?_|refine qaa ir ?_|refine qab hC (pS) ?_|refine qab hC (p0) ?_|refine qab hC (qdj g3 s) ?_|refine qad hS (by kernel_rfl) ?_);conv => whnf)
 have lT :=qbp ((L.drop 1).take N.length)
 refine qay hE hS (A :=Nat × AV × List AObj) [0,2,3,4,5,30,31] (fun (i,_,_) => [(32,nv i)]) (fun (_,v,_) => [(1,.cells (.node v (.node .nils .nil .nil) .nil) 2 64)]) (fun a => a.2.2) (fun (i,v,ux) => i ≤ N.length ∧ (i = 0 ∧ v = .nils ∧ ux = [] ∨ 0 < i ∧ v = lkVb N i 16 ∧ ux = uxL i)) (fun (i,_,_) => N.length - i) (0,.nils,[]) (kle rfl) rfl (by refine ⟨rfl,rfl,rfl,rfl,rfl,rfl,2,rfl,?_,?_⟩ <;> repeat' (first|exact trivial|exact rfl|exact wkr rfl|exact wko rfl|exact Nat.zero_le _|exact qa6 _ _ (by decide)|exact kle rfl|exact bdq|exact mxI rfl|exact mxS rfl|apply And.intro)) ⟨Nat.zero_le _,.inl ⟨rfl,rfl,rfl⟩⟩ ?_
 rintro ⟨i,v,ux⟩ ⟨hi,hv⟩ K hK
 have hi:i ≤ N.length :=hi
 have lK :=qa5 (cL (N.take i))
 refine Or.elim hv (fun hv => ?_) fun hv => ?_
 ·obtain ⟨rfl,rfl,rfl⟩ :=hv
  obtain rfl:K = 2 :=hK
  conv => whnf
  by_cases hi2:0 < N.length
  ·have hir:0 < N.length :=by omega
   have hi1:IntKind.i64.wrap (Int.ofNat 0 + 1) = Int.ofNat (0 + 1) :=qaz (m :=0 + 1) (by omega)
   have pN :=(hN 0 hi2).2
   have gI :=qbb L (a :=1) (n :=N.length) (i :=0) (by omega) hir
   have e2 :=qgf N 16 hi2
   repeat ((first|refine qal (nthP gI) ?_|refine qaj (qag hir) ?_|refine qai (qag hir) ?_|refine pkT (qag hir) ?_|refine qaa (qag hir) ?_|refine qar (qag hir) ?_|refine qas (qag hir) ?_|refine pkF (qag hir) ?_|refine qac (qag hir) ?_|refine qaj (qaq hir) ?_|refine qai (qaq hir) ?_|refine pkT (qaq hir) ?_|refine qaa (qaq hir) ?_|refine qab hC (pN) ?_|refine qad hS (by kernel_rfl) ?_);conv => whnf)
   exact ⟨(1,lkVb N 1 16,uxL 1),⟨hi2,.inr ⟨Nat.zero_lt_one,rfl,rfl⟩⟩,by show N.length - 1 < N.length - 0;omega,kle rfl,(by refine ⟨rfl,rfl,rfl,rfl,rfl,rfl,19,rfl,?_,?_⟩ <;> repeat' (first|exact trivial|exact rfl|exact wkr rfl|exact wko rfl|exact Nat.zero_le _|exact ⟨_,rfl,WkV.int hi1⟩|exact qei e2|exact qa6 _ _ (by decide)|exact kle rfl|exact bdq|exact mxI rfl|exact mxS rfl|apply And.intro))⟩
  ·have hiE:N.length = 0 :=by omega
   refine qac (qbt hi2) ?_
   conv => whnf
   refine .inl ?_
   conv => whnf
   have eN:N = [] :=by exact List.eq_nil_of_length_eq_zero (by omega)
   repeat ((first|refine qal (qhq (e :=9) (inf :=t9) (L :=L) (a :=N.length + 1) (n :=m) (by kernel_rfl) (by kernel_rfl) (by kernel_rfl) w1 w2 (by omega)) ?_|refine qad hS (by kernel_rfl) ?_);conv => whnf)
   have lU :=qbp ((L.drop (N.length + 1)).take m)
   have lW :=qa5 (cL (N.take N.length))
   refine qay hE hS (A :=Nat × AV × List AObj) [0,2,3,4,5,61,62] (fun (j,_,_) => [(63,nv j)]) (fun (_,w,_) => [(1,.cells (.node .nils (.node w .nil .nil) .nil) 2 64)]) (fun a => a.2.2) (fun (j,w,ux) => j ≤ H.length ∧ (j = 0 ∧ w = .nils ∧ ux = [] ∨ 0 < j ∧ w = hdV H j 8 ∧ ux = uxH j)) (fun (j,_,_) => H.length - j) (0,.nils,[]) (kle rfl) rfl (by refine ⟨rfl,rfl,rfl,rfl,rfl,rfl,2,rfl,?_,?_⟩ <;> repeat' (first|exact trivial|exact rfl|exact wkr rfl|exact wko rfl|exact Nat.zero_le _|exact qck _ _ (by decide)|exact qa6 _ _ (by decide)|exact kle rfl|exact bdq|exact mxI rfl|exact mxS rfl|apply And.intro)) ⟨Nat.zero_le _,.inl ⟨rfl,rfl,rfl⟩⟩ ?_
   rintro ⟨j,w,ux⟩ ⟨hj,hw⟩ K hK
   have hj:j ≤ H.length :=hj
   have lV :=qau (zl (H.take j))
   refine Or.elim hw (fun hw => ?_) fun hw => ?_
   ·obtain ⟨rfl,rfl,rfl⟩ :=hw
    obtain rfl:K = 2 :=hK
    conv => whnf
    by_cases hj3:0 < H.length
    ·have hjr:0 < m :=by omega
     have hj1:IntKind.i64.wrap (Int.ofNat 0 + 1) = Int.ofNat (0 + 1) :=qaz (m :=0 + 1) (by omega)
     have pN :=(hH 0 hj3).2
     have gI :=qbb L (a :=N.length + 1) (n :=m) (i :=0) (by omega) hjr
     have e2 :=qet H 8 hj3
     repeat ((first|refine qal (nthP gI) ?_|refine qaj (qag hjr) ?_|refine qai (qag hjr) ?_|refine pkT (qag hjr) ?_|refine qaa (qag hjr) ?_|refine qar (qag hjr) ?_|refine qas (qag hjr) ?_|refine pkF (qag hjr) ?_|refine qac (qag hjr) ?_|refine qaj (qaq hjr) ?_|refine qai (qaq hjr) ?_|refine pkT (qaq hjr) ?_|refine qaa (qaq hjr) ?_|refine qab hC (pN) ?_|refine qad hS (by kernel_rfl) ?_);conv => whnf)
     exact ⟨(1,hdV H 1 8,uxH 1),⟨hj3,.inr ⟨Nat.zero_lt_one,rfl,rfl⟩⟩,by show H.length - 1 < H.length - 0;omega,kle rfl,(by refine ⟨rfl,rfl,rfl,rfl,rfl,rfl,11,rfl,?_,?_⟩ <;> repeat' (first|exact trivial|exact rfl|exact wkr rfl|exact wko rfl|exact Nat.zero_le _|exact ⟨_,rfl,WkV.int hj1⟩|exact e2|exact qcv e2|exact qck _ _ (by decide)|exact qa6 _ _ (by decide)|exact kle rfl|exact bdq|exact mxI rfl|exact mxS rfl|apply And.intro))⟩
    ·have hjE:H.length = 0 :=by omega
     rw [hjE] at hz pz
     have gI :=qbb L (a :=N.length + 1) (n :=m) (i :=0) (by omega) hz
     repeat ((first|refine qal (nthP gI) ?_|refine qaj (qag hz) ?_|refine qai (qag hz) ?_|refine pkT (qag hz) ?_|refine qaa (qag hz) ?_|refine qar (qag hz) ?_|refine qas (qag hz) ?_|refine pkF (qag hz) ?_|refine qac (qag hz) ?_|refine qaj (qaq hz) ?_|refine qai (qaq hz) ?_|refine pkT (qaq hz) ?_|refine qaa (qaq hz) ?_|refine qad hS (by kernel_rfl) ?_);conv => whnf)
     refine qap hC ?_
     conv => whnf
     refine qa0 hS (pz) ?_
     conv => whnf
   ·obtain ⟨hj2,rfl,rfl⟩ :=hw
    obtain rfl:K = 11 :=hK
    conv => whnf
    by_cases hj3:j < H.length
    ·have hjr:j < m :=by omega
     have hj1:IntKind.i64.wrap (Int.ofNat j + 1) = Int.ofNat (j + 1) :=qaz (m :=j + 1) (by omega)
     have pN :=(hH j hj3).2
     have gI :=qbb L (a :=N.length + 1) (n :=m) (i :=j) (by omega) hjr
     have d1:decide ((j + (0 + 1)) * 8 ≤ 140737488355328) = true :=decide_eq_true (by omega)
     have d2:decide (j + (0 + 1) ≤ 9223372036854775807) = true :=decide_eq_true (by omega)
     have d4:decide (j = j) = true :=decide_eq_true rfl
     have d5 :=qes H hj
     have e2 :=qfr H 8 hj3
     repeat ((first|refine qal (nthP gI) ?_|refine qaj (qag hjr) ?_|refine qai (qag hjr) ?_|refine pkT (qag hjr) ?_|refine qaa (qag hjr) ?_|refine qar (qag hjr) ?_|refine qas (qag hjr) ?_|refine pkF (qag hjr) ?_|refine qac (qag hjr) ?_|refine qaj (qaq hjr) ?_|refine qai (qaq hjr) ?_|refine pkT (qaq hjr) ?_|refine qaa (qaq hjr) ?_|refine qaj d1 ?_|refine qai d1 ?_|refine pkT d1 ?_|refine qaa d1 ?_|refine qaj d2 ?_|refine qai d2 ?_|refine pkT d2 ?_|refine qaa d2 ?_|refine qaj d4 ?_|refine qai d4 ?_|refine pkT d4 ?_|refine qaa d4 ?_|refine qaj d5 ?_|refine qai d5 ?_|refine pkT d5 ?_|refine qaa d5 ?_|refine qar d5 ?_|refine qas d5 ?_|refine pkF d5 ?_|refine qac d5 ?_|refine qab hC (pN) ?_|refine qad hS (by kernel_rfl) ?_);conv => whnf)
     exact ⟨(j + 1,hdV H (j + 1) 8,uxH (j + 1)),⟨hj3,.inr ⟨Nat.succ_pos _,rfl,rfl⟩⟩,by show H.length - (j + 1) < H.length - j;omega,kle rfl,(by refine ⟨rfl,rfl,rfl,rfl,rfl,rfl,11,rfl,?_,?_⟩ <;> repeat' (first|exact trivial|exact rfl|exact wkr rfl|exact wko rfl|exact Nat.zero_le _|exact ⟨_,rfl,WkV.int hj1⟩|exact e2|exact qcv e2|exact qck _ _ (by decide)|exact qa6 _ _ (by decide)|exact kle rfl|exact bdq|exact mxI rfl|exact mxS rfl|apply And.intro))⟩
    ·have hjE:H.length = j :=by omega
     rw [hjE] at hz pz
     have gI :=qbb L (a :=N.length + 1) (n :=m) (i :=j) (by omega) hz
     repeat ((first|refine qal (nthP gI) ?_|refine qaj (qag hz) ?_|refine qai (qag hz) ?_|refine pkT (qag hz) ?_|refine qaa (qag hz) ?_|refine qar (qag hz) ?_|refine qas (qag hz) ?_|refine pkF (qag hz) ?_|refine qac (qag hz) ?_|refine qaj (qaq hz) ?_|refine qai (qaq hz) ?_|refine pkT (qaq hz) ?_|refine qaa (qaq hz) ?_|refine qad hS (by kernel_rfl) ?_);conv => whnf)
     refine qap hC ?_
     conv => whnf
     refine qa0 hS (pz) ?_
     conv => whnf
 ·obtain ⟨hi9,rfl,rfl⟩ :=hv
  obtain rfl:K = 19 :=hK
  conv => whnf
  by_cases hi2:i < N.length
  ·have hir:i < N.length :=by omega
   have hi1:IntKind.i64.wrap (Int.ofNat i + 1) = Int.ofNat (i + 1) :=qaz (m :=i + 1) (by omega)
   have pN :=(hN i hi2).2
   have gI :=qbb L (a :=1) (n :=N.length) (i :=i) (by omega) hir
   have d1:decide ((i + (0 + 1)) * 24 ≤ 140737488355328) = true :=decide_eq_true (by omega)
   have d2:decide (i + (0 + 1) ≤ 9223372036854775807) = true :=decide_eq_true (by omega)
   have d4:decide (i = i) = true :=decide_eq_true rfl
   have d5 :=qgh N hi
   have e2 :=qi8 N 16 hi2
   repeat ((first|refine qal (nthP gI) ?_|refine qaj (qag hir) ?_|refine qai (qag hir) ?_|refine pkT (qag hir) ?_|refine qaa (qag hir) ?_|refine qar (qag hir) ?_|refine qas (qag hir) ?_|refine pkF (qag hir) ?_|refine qac (qag hir) ?_|refine qaj (qaq hir) ?_|refine qai (qaq hir) ?_|refine pkT (qaq hir) ?_|refine qaa (qaq hir) ?_|refine qaj d1 ?_|refine qai d1 ?_|refine pkT d1 ?_|refine qaa d1 ?_|refine qaj d2 ?_|refine qai d2 ?_|refine pkT d2 ?_|refine qaa d2 ?_|refine qaj d4 ?_|refine qai d4 ?_|refine pkT d4 ?_|refine qaa d4 ?_|refine qaj d5 ?_|refine qai d5 ?_|refine pkT d5 ?_|refine qaa d5 ?_|refine qar d5 ?_|refine qas d5 ?_|refine pkF d5 ?_|refine qac d5 ?_|refine qab hC (pN) ?_|refine qad hS (by kernel_rfl) ?_);conv => whnf)
   exact ⟨(i + 1,lkVb N (i + 1) 16,uxL (i + 1)),⟨hi2,.inr ⟨Nat.succ_pos _,rfl,rfl⟩⟩,by show N.length - (i + 1) < N.length - i;omega,kle rfl,(by refine ⟨rfl,rfl,rfl,rfl,rfl,rfl,19,rfl,?_,?_⟩ <;> repeat' (first|exact trivial|exact rfl|exact wkr rfl|exact wko rfl|exact Nat.zero_le _|exact ⟨_,rfl,WkV.int hi1⟩|exact qei e2|exact qa6 _ _ (by decide)|exact kle rfl|exact bdq|exact mxI rfl|exact mxS rfl|apply And.intro))⟩
  ·have hiE:N.length = i :=by omega
   subst hiE
   refine qac (qbt hi2) ?_
   conv => whnf
   refine .inl ?_
   conv => whnf
   have eN:N ≠ [] :=by intro z;rw [z] at hi9;exact absurd hi9 (Nat.not_lt_zero _)
   repeat ((first|refine qal (qhq (e :=9) (inf :=t9) (L :=L) (a :=N.length + 1) (n :=m) (by kernel_rfl) (by kernel_rfl) (by kernel_rfl) w1 w2 (by omega)) ?_|refine qad hS (by kernel_rfl) ?_);conv => whnf)
   have lU :=qbp ((L.drop (N.length + 1)).take m)
   have lW :=qa5 (cL (N.take N.length))
   refine qay hE hS (A :=Nat × AV × List AObj) [0,2,3,4,5,61,62] (fun (j,_,_) => [(63,nv j)]) (fun (_,w,_) => [(1,.cells (.node (lkVb N N.length 16) (.node w .nil .nil) .nil) 2 64)]) (fun a => a.2.2) (fun (j,w,ux) => j ≤ H.length ∧ (j = 0 ∧ w = .nils ∧ ux = [] ∨ 0 < j ∧ w = hdV H j 25 ∧ ux = uxH j)) (fun (j,_,_) => H.length - j) (0,.nils,[]) (kle rfl) rfl (by refine ⟨rfl,rfl,rfl,rfl,rfl,rfl,19,rfl,?_,?_⟩ <;> repeat' (first|exact trivial|exact rfl|exact wkr rfl|exact wko rfl|exact Nat.zero_le _|exact qck _ _ (by decide)|exact qa6 _ _ (by decide)|exact kle rfl|exact bdq|exact mxI rfl|exact mxS rfl|apply And.intro)) ⟨Nat.zero_le _,.inl ⟨rfl,rfl,rfl⟩⟩ ?_
   rintro ⟨j,w,ux⟩ ⟨hj,hw⟩ K hK
   have hj:j ≤ H.length :=hj
   have lV :=qau (zl (H.take j))
   refine Or.elim hw (fun hw => ?_) fun hw => ?_
   ·obtain ⟨rfl,rfl,rfl⟩ :=hw
    obtain rfl:K = 19 :=hK
    conv => whnf
    by_cases hj3:0 < H.length
    ·have hjr:0 < m :=by omega
     have hj1:IntKind.i64.wrap (Int.ofNat 0 + 1) = Int.ofNat (0 + 1) :=qaz (m :=0 + 1) (by omega)
     have pN :=(hH 0 hj3).2
     have gI :=qbb L (a :=N.length + 1) (n :=m) (i :=0) (by omega) hjr
     have e2 :=qet H 25 hj3
     repeat ((first|refine qal (nthP gI) ?_|refine qaj (qag hjr) ?_|refine qai (qag hjr) ?_|refine pkT (qag hjr) ?_|refine qaa (qag hjr) ?_|refine qar (qag hjr) ?_|refine qas (qag hjr) ?_|refine pkF (qag hjr) ?_|refine qac (qag hjr) ?_|refine qaj (qaq hjr) ?_|refine qai (qaq hjr) ?_|refine pkT (qaq hjr) ?_|refine qaa (qaq hjr) ?_|refine qab hC (pN) ?_|refine qad hS (by kernel_rfl) ?_);conv => whnf)
     exact ⟨(1,hdV H 1 25,uxH 1),⟨hj3,.inr ⟨Nat.zero_lt_one,rfl,rfl⟩⟩,by show H.length - 1 < H.length - 0;omega,kle rfl,(by refine ⟨rfl,rfl,rfl,rfl,rfl,rfl,28,rfl,?_,?_⟩ <;> repeat' (first|exact trivial|exact rfl|exact wkr rfl|exact wko rfl|exact Nat.zero_le _|exact ⟨_,rfl,WkV.int hj1⟩|exact e2|exact qcv e2|exact qck _ _ (by decide)|exact qa6 _ _ (by decide)|exact kle rfl|exact bdq|exact mxI rfl|exact mxS rfl|apply And.intro))⟩
    ·have hjE:H.length = 0 :=by omega
     rw [hjE] at hz pz
     have gI :=qbb L (a :=N.length + 1) (n :=m) (i :=0) (by omega) hz
     repeat ((first|refine qal (nthP gI) ?_|refine qaj (qag hz) ?_|refine qai (qag hz) ?_|refine pkT (qag hz) ?_|refine qaa (qag hz) ?_|refine qar (qag hz) ?_|refine qas (qag hz) ?_|refine pkF (qag hz) ?_|refine qac (qag hz) ?_|refine qaj (qaq hz) ?_|refine qai (qaq hz) ?_|refine pkT (qaq hz) ?_|refine qaa (qaq hz) ?_|refine qad hS (by kernel_rfl) ?_);conv => whnf)
     refine qap hC ?_
     conv => whnf
     refine qa0 hS (pz) ?_
     conv => whnf
   ·obtain ⟨hj2,rfl,rfl⟩ :=hw
    obtain rfl:K = 28 :=hK
    conv => whnf
    by_cases hj3:j < H.length
    ·have hjr:j < m :=by omega
     have hj1:IntKind.i64.wrap (Int.ofNat j + 1) = Int.ofNat (j + 1) :=qaz (m :=j + 1) (by omega)
     have pN :=(hH j hj3).2
     have gI :=qbb L (a :=N.length + 1) (n :=m) (i :=j) (by omega) hjr
     have d1:decide ((j + (0 + 1)) * 8 ≤ 140737488355328) = true :=decide_eq_true (by omega)
     have d2:decide (j + (0 + 1) ≤ 9223372036854775807) = true :=decide_eq_true (by omega)
     have d4:decide (j = j) = true :=decide_eq_true rfl
     have d5 :=qes H hj
     have e2 :=qfr H 25 hj3
     repeat ((first|refine qal (nthP gI) ?_|refine qaj (qag hjr) ?_|refine qai (qag hjr) ?_|refine pkT (qag hjr) ?_|refine qaa (qag hjr) ?_|refine qar (qag hjr) ?_|refine qas (qag hjr) ?_|refine pkF (qag hjr) ?_|refine qac (qag hjr) ?_|refine qaj (qaq hjr) ?_|refine qai (qaq hjr) ?_|refine pkT (qaq hjr) ?_|refine qaa (qaq hjr) ?_|refine qaj d1 ?_|refine qai d1 ?_|refine pkT d1 ?_|refine qaa d1 ?_|refine qaj d2 ?_|refine qai d2 ?_|refine pkT d2 ?_|refine qaa d2 ?_|refine qaj d4 ?_|refine qai d4 ?_|refine pkT d4 ?_|refine qaa d4 ?_|refine qaj d5 ?_|refine qai d5 ?_|refine pkT d5 ?_|refine qaa d5 ?_|refine qar d5 ?_|refine qas d5 ?_|refine pkF d5 ?_|refine qac d5 ?_|refine qab hC (pN) ?_|refine qad hS (by kernel_rfl) ?_);conv => whnf)
     exact ⟨(j + 1,hdV H (j + 1) 25,uxH (j + 1)),⟨hj3,.inr ⟨Nat.succ_pos _,rfl,rfl⟩⟩,by show H.length - (j + 1) < H.length - j;omega,kle rfl,(by refine ⟨rfl,rfl,rfl,rfl,rfl,rfl,28,rfl,?_,?_⟩ <;> repeat' (first|exact trivial|exact rfl|exact wkr rfl|exact wko rfl|exact Nat.zero_le _|exact ⟨_,rfl,WkV.int hj1⟩|exact e2|exact qcv e2|exact qck _ _ (by decide)|exact qa6 _ _ (by decide)|exact kle rfl|exact bdq|exact mxI rfl|exact mxS rfl|apply And.intro))⟩
    ·have hjE:H.length = j :=by omega
     rw [hjE] at hz pz
     have gI :=qbb L (a :=N.length + 1) (n :=m) (i :=j) (by omega) hz
     repeat ((first|refine qal (nthP gI) ?_|refine qaj (qag hz) ?_|refine qai (qag hz) ?_|refine pkT (qag hz) ?_|refine qaa (qag hz) ?_|refine qar (qag hz) ?_|refine qas (qag hz) ?_|refine pkF (qag hz) ?_|refine qac (qag hz) ?_|refine qaj (qaq hz) ?_|refine qai (qaq hz) ?_|refine pkT (qaq hz) ?_|refine qaa (qaq hz) ?_|refine qad hS (by kernel_rfl) ?_);conv => whnf)
     refine qap hC ?_
     conv => whnf
     refine qa0 hS (pz) ?_
     conv => whnf
end
end Go.Abs.Seat
namespace Go.Abs.Seat
noncomputable section
open Go Go.Abs Go.Proofs.Tryz
set_option maxRecDepth 100000
set_option maxHeartbeats 40000000
attribute [local irreducible] IntKind.wrap pEq qb0
theorem ql4 (c:UInt8):∀ u,(∀ b,b ∈ u → b ≠ c) → spl c u = [u]
 | [],_ => rfl
 |b :: r,h => by rw [spl,if_neg (h b (List.mem_cons_self ..)),ql4 c r fun x hx => h x (List.mem_cons_of_mem _ hx)]
theorem qfa (c:UInt8) (v:List UInt8):∀ u,(∀ b,b ∈ u → b ≠ c) → spl c (u ++ c :: v) = u :: spl c v
 | [],_ => by rw [List.nil_append,spl,if_pos rfl]
 |b :: r,h => by rw [List.cons_append,spl,if_neg (h b (List.mem_cons_self ..)),qfa c v r fun x hx => h x (List.mem_cons_of_mem _ hx)]
end
end Go.Abs.Seat
namespace Go.Abs.Seat
noncomputable section
open Go Go.Abs Go.Proofs.Tryz
set_option maxRecDepth 100000
set_option maxHeartbeats 40000000
attribute [local irreducible] pEq qb0 IntKind.wrap
theorem qw8:∀ n,n < 100 → ∀ x,x ∈ dec n → 48 ≤ x.toNat ∧ x.toNat ≤ 57 :=by decide +kernel
theorem qeh:∀ a,a < 100 → ∀ b,b < 100 → dec a = dec b → a = b :=by decide +kernel
theorem qdu {n:Nat} (h:n < 100) {c:UInt8} (hc:c = 10 ∨ c = 32):∀ b,b ∈ dec n → b ≠ c :=fun b hb e => by
 have :=qw8 n h b hb
 rw [e] at this
 rcases hc with rfl | rfl
 ·exact absurd this.1 (by decide)
 ·exact absurd this.1 (by decide)
theorem qdr {a b:List UInt8} {c:UInt8} (ha:∀ x,x ∈ a → x ≠ c) (hb:∀ x,x ∈ b → x ≠ c):∀ x,x ∈ a ++ b → x ≠ c :=fun x hx => (List.mem_append.1 hx).elim (ha x) (hb x)
def qon:List UInt8 :=[112,105,101,99,101]
def qni:List UInt8 :=[108,105,110,107]
def qoo:List UInt8 :=[104,97,110,100]
theorem qwo {n:Nat} (h:n < 100):∀ x,x ∈ lnM n → x ≠ 10 :=qdr (by decide) (qdr (by decide) (qdu h (.inl rfl)))
theorem qwp {x:Lk} (h:x.1 < 100 ∧ x.2.1 < 100 ∧ x.2.2 < 100):∀ y,y ∈ lnL x → y ≠ 10 :=qdr (qdr (qdr (by decide) (qdr (by decide) (qdu h.1 (.inl rfl)))) (qdr (by decide) (qdu h.2.1 (.inl rfl)))) (qdr (by decide) (qdu h.2.2 (.inl rfl)))
theorem qwq {n:Nat} (h:n < 100):∀ x,x ∈ lnH n → x ≠ 10 :=qdr (by decide) (qdr (by decide) (qdu h (.inl rfl)))
theorem qg8 {n:Nat} (h:n < 100):spl 32 (lnM n) = [qon,dec n] :=by
 have k :=qfa 32 (dec n) qon (by decide)
 rw [ql4 32 _ (qdu h (.inr rfl))] at k
 exact k
theorem qqn {n:Nat} (h:n < 100):spl 32 (lnH n) = [qoo,dec n] :=by
 have k :=qfa 32 (dec n) qoo (by decide)
 rw [ql4 32 _ (qdu h (.inr rfl))] at k
 exact k
theorem qql {x:Lk} (h:x.1 < 100 ∧ x.2.1 < 100 ∧ x.2.2 < 100):spl 32 (lnL x) = [qni,dec x.1,dec x.2.1,dec x.2.2] :=by
 have k1 :=qfa 32 (dec x.2.2) (dec x.2.1) (qdu h.2.1 (.inr rfl))
 rw [ql4 32 _ (qdu h.2.2 (.inr rfl))] at k1
 have k2 :=qfa 32 (dec x.2.1 ++ 32 :: dec x.2.2) (dec x.1) (qdu h.1 (.inr rfl))
 rw [k1] at k2
 have k3 :=qfa 32 (dec x.1 ++ 32 :: (dec x.2.1 ++ 32 :: dec x.2.2)) qni (by decide)
 rw [k2] at k3
 rw [← k3]
 congr 1
 unfold lnL qni
 simp
theorem qtf {l:List (List UInt8)} (h:∀ w,w ∈ l → ∀ b,b ∈ w → b ≠ 10) (x:List UInt8):∀ i,i ≤ l.length → spl 10 (ouB l i ++ x) = l.take i ++ spl 10 x :=by
 intro i
 induction i generalizing x with
 |zero => intro _;rfl
 |succ i ih =>
  intro hi
  have hlt:i < l.length :=hi
  have e:gB l i = l[i] :=by simp [gB,List.getD,hlt]
  rw [ouB,List.append_assoc,List.append_assoc,ih _ (by omega)]
  show _ ++ spl 10 (gB l i ++ 10 :: x) = _
  rw [qfa 10 x (gB l i) (h _ (by rw [e];exact List.getElem_mem hlt)),List.take_succ_eq_append_getElem hlt,e,List.append_assoc]
  rfl
def endL (c:Nat):List UInt8 :=[101,110,100,32] ++ (dec (c / 100) ++ (dec (c / 10 % 10) ++ dec (c % 10)))
theorem qq5 (o:List UInt8) (c:Nat):finB o c = o ++ (endL c ++ [10]) :=by
 unfold finB endL
 simp only [List.append_assoc]
theorem qre {c:Nat} (h:c < 1000):∀ x,x ∈ endL c → x ≠ 10 :=qdr (by decide) (qdr (qdu (by omega) (.inl rfl)) (qdr (qdu (by omega) (.inl rfl)) (qdu (by omega) (.inl rfl))))
theorem qti {N:List Lk} {H:List Nat} (h:okT N H) (hN:N.length < 100):∀ w,w ∈ lnsB N H → ∀ b,b ∈ w → b ≠ 10 :=by
 intro w hw
 rcases List.mem_cons.1 hw with rfl | hw
 ·exact qwo hN
 ·rcases List.mem_append.1 hw with hw | hw
  ·obtain ⟨x,hx,rfl⟩ :=List.mem_map.1 hw
   exact qwp (h.1 x hx)
  ·obtain ⟨x,hx,rfl⟩ :=List.mem_map.1 hw
   exact qwq (h.2 x hx)
theorem qui {N:List Lk} {H:List Nat} (h:okT N H) (hN:N.length < 100):∃ e,spl 10 (prtB N H) = lnsB N H ++ [e,[]] :=by
 refine ⟨endL (ckN (lnsB N H) (lnsB N H).length % 127),?_⟩
 unfold prtB
 rw [qq5,qtf (qti h hN) _ _ (Nat.le_refl _),List.take_length]
 have k :=qfa 10 [] (endL (ckN (lnsB N H) (lnsB N H).length % 127)) (qre (by omega))
 rw [k]
 rfl
theorem qqj (N:List Lk) (H:List Nat):(lnsB N H).length = N.length + H.length + 1 :=by
 unfold lnsB
 rw [List.length_cons,List.length_append,List.length_map,List.length_map]
theorem qka {l r:List (List UInt8)} {i:Nat} (h:i < l.length):gB (l ++ r) i = gB l i :=by
 simp only [gB,List.getD_eq_getElem?_getD,List.getElem?_append_left h]
theorem qxo {N:List Lk} {H:List Nat} {i:Nat} (h:i < N.length):gB (lnsB N H) (i + 1) = lnL (gN N i) :=by
 have:gB (lnsB N H) (i + 1) = gB (N.map lnL ++ H.map lnH) i :=rfl
 rw [this,qka (by rw [List.length_map];exact h)]
 simp [gB,gN,List.getD,h]
theorem qxp {N:List Lk} {H:List Nat} {i:Nat} (h:i < H.length):gB (lnsB N H) (i + (N.length + 1)) = lnH (gn H i) :=by
 have:gB (lnsB N H) (i + (N.length + 1)) = gB (N.map lnL ++ H.map lnH) (i + N.length) :=rfl
 rw [this]
 simp only [gB,List.getD_eq_getElem?_getD]
 rw [List.getElem?_append_right (by rw [List.length_map];omega),List.length_map,Nat.add_sub_cancel]
 simp [gn,List.getD,h]
structure TxB (s:List UInt8) (N:List Lk) (H:List Nat):Prop where
 ok:okT N H
 hN:N.length < 100
 len:(spl 10 s).length = N.length + H.length + 3
 l0:gB (spl 10 s) 0 = lnM N.length
 lN:∀ i,i < N.length → gB (spl 10 s) (i + 1) = lnL (gN N i)
 lH:∀ i,i < H.length → gB (spl 10 s) (i + (N.length + 1)) = lnH (gn H i)
theorem qot {N:List Lk} {H:List Nat} (h:okT N H) (hN:N.length < 100):TxB (prtB N H) N H :=by
 obtain ⟨e,he⟩ :=qui h hN
 have hl :=qqj N H
 refine ⟨h,hN,?_,?_,fun i hi => ?_,fun i hi => ?_⟩
 ·rw [he,List.length_append,hl];rfl
 ·rw [he,qka (by omega)];rfl
 ·rw [he,qka (by omega),qxo hi]
 ·rw [he,qka (by omega),qxp hi]
theorem qu8 {N:List Lk} {H:List Nat} (h:okT N H) {i:Nat} (hi:i < N.length):(gN N i).1 < 100 ∧ (gN N i).2.1 < 100 ∧ (gN N i).2.2 < 100 :=h.1 _ (by simp [gN,List.getD,hi])
theorem qu6 {N:List Lk} {H:List Nat} (h:okT N H) {i:Nat} (hi:i < H.length):gn H i < 100 :=h.2 _ (by simp [gn,List.getD,hi])
theorem qt6 {s:List UInt8} {N N':List Lk} {H H':List Nat} (h:TxB s N' H') (h0:N.length < 100 ∧ spl 32 (gB (spl 10 s) 0) = [qon,dec N.length]) (hm:N.length + H.length + 3 = (spl 10 s).length) (hN:∀ i,i < N.length → ((gN N i).1 < 100 ∧ (gN N i).2.1 < 100 ∧ (gN N i).2.2 < 100) ∧ spl 32 (gB (spl 10 s) (i + 1)) = [qni,dec (gN N i).1,dec (gN N i).2.1,dec (gN N i).2.2]) (hH:∀ i,i < H.length → gn H i < 100 ∧ spl 32 (gB (spl 10 s) (i + (N.length + 1))) = [qoo,dec (gn H i)]):N = N' ∧ H = H' :=by
 have a1:N.length = N'.length :=by
  have :=h0.2
  rw [h.l0,qg8 h.hN] at this
  simp only [List.cons.injEq,and_true,true_and] at this
  exact (qeh _ h.hN _ h0.1 this).symm
 have a2:H.length = H'.length :=by have :=h.len;omega
 refine ⟨List.ext_getElem a1 fun i h1 h2 => ?_,List.ext_getElem a2 fun i h1 h2 => ?_⟩
 ·have k :=(hN i h1)
  have o :=qu8 h.ok h2
  rw [h.lN i h2,qql o] at k
  have k2 :=k.2
  simp only [List.cons.injEq,and_true,true_and] at k2
  have e1 :=qeh _ o.1 _ k.1.1 k2.1
  have e2 :=qeh _ o.2.1 _ k.1.2.1 k2.2.1
  have e3 :=qeh _ o.2.2 _ k.1.2.2 k2.2.2
  have g1:gN N i = N[i] :=by simp [gN,List.getD,h1]
  have g2:gN N' i = N'[i] :=by simp [gN,List.getD,h2]
  rw [← g1,← g2]
  exact Prod.ext e1.symm (Prod.ext e2.symm e3.symm)
 ·have k :=(hH i h1)
  have o :=qu6 h.ok h2
  rw [a1,h.lH i h2,qqn o] at k
  have k2 :=k.2
  simp only [List.cons.injEq,and_true,true_and] at k2
  have e1 :=qeh _ o _ k.1 k2
  have g1:gn H i = H[i] :=by simp [gn,List.getD,h1]
  have g2:gn H' i = H'[i] :=by simp [gn,List.getD,h2]
  rw [← g1,← g2,e1]
theorem qq3 {α:Type} (P:Nat → α → Prop) (d:α):∀ n,(∃ l:List α,l.length = n ∧ ∀ i,i < n → P i (l.getD i d)) ∨ ∃ l:List α,l.length < n ∧ (∀ i,i < l.length → P i (l.getD i d)) ∧ ¬ ∃ a,P l.length a
 | 0 => .inl ⟨[],rfl,fun i h => absurd h (Nat.not_lt_zero _)⟩
 |n + 1 => by
  rcases qq3 P d n with ⟨l,hl,h⟩ | ⟨l,hl,h,hb⟩
  ·by_cases k:∃ a,P n a
   ·obtain ⟨a,ha⟩ :=k
    refine .inl ⟨l ++ [a],by rw [List.length_append,hl];rfl,fun i hi => ?_⟩
    by_cases e:i < n
    ·have:(l ++ [a]).getD i d = l.getD i d :=by
      simp only [List.getD_eq_getElem?_getD]
      rw [List.getElem?_append_left (by omega)]
     rw [this]
     exact h i e
    ·have e2:i = n :=by omega
     have:(l ++ [a]).getD i d = a :=by
      simp only [List.getD_eq_getElem?_getD]
      rw [List.getElem?_append_right (by omega),e2,hl,Nat.sub_self]
      rfl
     rw [this,e2]
     exact ha
   ·exact .inr ⟨l,by omega,by rw [hl];exact h,by rw [hl];exact k⟩
  ·exact .inr ⟨l,by omega,h,hb⟩
theorem qr9 {s why:List UInt8} (hs:s.length ≤ 300) (pz:qb7 prog 143 [.str (gB (spl 10 s) 0),iv 0,iv 1] (noP why)):qb7 prog 95 [.str s] (noP why) :=by
 have pS :=qbd s 10 (by omega)
 have lS :=qbp (spl 10 s)
 have hp:0 < (spl 10 s).length :=by rw [qgu];omega
 obtain ⟨L,hL⟩ : ∃ L,L = spl 10 s :=⟨_,rfl⟩
 rw [← hL] at pz pS lS hp
 have ir:inR 0 L.length = true :=qaq (i :=0) hp
 have n0:nth (stA L) (0:Int).toNat = some (.str (gB L 0)) :=qe4 (l :=L) (i :=0) hp
 refine qa8 hE rfl (by repeat' first|exact trivial|assumption|exact qae _|exact fun _ h => nomatch h|apply And.intro) (by simp [noP,Live,Lives]) fun S q pc hS hq hC hE => ?_
 conv => whnf
 repeat ((first|refine qal (nthP n0) ?_|refine qaj ir ?_|refine qai ir ?_|refine pkT ir ?_|refine qaa ir ?_|refine qab hC (pS) ?_|refine qad hS (by kernel_rfl) ?_);conv => whnf)
 refine qap hC ?_
 conv => whnf
 refine qa0 hS (pz) ?_
 conv => whnf
theorem qns {s:List UInt8} {m:Nat} (hs:s.length ≤ 300) (h0:pM (gB (spl 10 s) 0) m) (hm:(spl 10 s).length < m + 3):qb7 prog 95 [.str s] (noP s) :=by
 have pS :=qbd s 10 (by omega)
 have lS :=qbp (spl 10 s)
 have hp:0 < (spl 10 s).length :=by rw [qgu];omega
 obtain ⟨L,hL⟩ : ∃ L,L = spl 10 s :=⟨_,rfl⟩
 rw [← hL] at h0 hm pS lS hp
 have p0 :=h0.2
 have hn :=h0.1
 have ir:inR 0 L.length = true :=qaq (i :=0) hp
 have n0:nth (stA L) (0:Int).toNat = some (.str (gB L 0)) :=qe4 (l :=L) (i :=0) hp
 have w3:IntKind.i64.wrap (Int.ofNat m + 3) = Int.ofNat (m + 3) :=qaz (m :=m + 3) (by omega)
 have g3:decide ((L.length:Int) ≥ IntKind.i64.wrap (Int.ofNat m + 3)) = false :=decide_eq_false (by rw [w3];simp only [Int.ofNat_eq_natCast];omega)
 refine qa8 hE rfl (by repeat' first|exact trivial|assumption|exact qae _|exact fun _ h => nomatch h|apply And.intro) (by simp [noP,Live,Lives]) fun S q pc hS hq hC hE => ?_
 conv => whnf
 repeat ((first|refine qal (nthP n0) ?_|refine qaj ir ?_|refine qai ir ?_|refine pkT ir ?_|refine qaa ir ?_|refine qab hC (pS) ?_|refine qab hC (p0) ?_|refine qad hS (by kernel_rfl) ?_);conv => whnf)
 refine qap hC ?_
 conv => whnf
 refine qa0 hS (qdx g3 s) ?_
 conv => whnf
theorem qxr (c:UInt8) (s:List UInt8) (i:Nat):(gB (spl c s) i).length ≤ s.length :=by
 by_cases h:i < (spl c s).length
 ·have e:gB (spl c s) i = (spl c s)[i] :=by simp [gB,List.getD,h]
  rw [e]
  exact qf7 c s _ (List.getElem_mem h)
 ·have e:gB (spl c s) i = [] :=by simp [gB,List.getD,h]
  rw [e];exact Nat.zero_le _
def isT (s:List UInt8) (N:List Lk) (H:List Nat):Prop :=okT N H ∧ N.length < 100 ∧ prtB N H = s
theorem qjz {s:List UInt8} (hs:s.length ≤ 300):(∃ N H,isT s N H ∧ Pure prog 95 [.str s] (.agg [xN N,yH H])) ∨ ((¬ ∃ N H,isT s N H) ∧ ∃ why,qb7 prog 95 [.str s] (noP why)) :=by
 have hg :=qxr 10 s
 rcases qwm (k :=0) qn2 (s :=gB (spl 10 s) 0) (by have :=hg 0;omega) with ⟨m,hm,e0,q0⟩ | ⟨h0,why,q0⟩
 ·by_cases hf:(spl 10 s).length < m + 3
  ·refine .inr ⟨fun ⟨N,H,o,l,e⟩ => ?_,_,qns hs ⟨hm,q0⟩ hf⟩
   have t :=e ▸ qot o l
   have k :=t.l0
   rw [k,qg8 l] at e0
   simp only [List.cons.injEq,and_true] at e0
   have :=qeh _ l _ hm e0.2
   have :=t.len
   omega
  ·rcases qq3 (fun i (x:Lk) => (x.1 < 100 ∧ x.2.1 < 100 ∧ x.2.2 < 100) ∧ spl 32 (gB (spl 10 s) (i + 1)) = [qni,dec x.1,dec x.2.1,dec x.2.2] ∧ pL (gB (spl 10 s) (i + 1)) x) (0,0,0) m with ⟨N,hN,h⟩ | ⟨N,hN,h,hb⟩
   ·rcases qq3 (fun i (x:Nat) => x < 100 ∧ spl 32 (gB (spl 10 s) (i + (m + 1))) = [qoo,dec x] ∧ pH (gB (spl 10 s) (i + (m + 1))) x) 0 ((spl 10 s).length - 3 - m) with ⟨H,hH,h2⟩ | ⟨H,hH,h2,hb⟩
    ·subst hN
     have hT:okT N H :=qp6 (a :=N.length + 1) (fun i hi => (h i hi).2.2) (fun i hi => (h2 i (by omega)).2.2)
     by_cases he:prtB N H = s
     ·exact .inl ⟨N,H,⟨hT,hm,he⟩,qpm hs ⟨hm,q0⟩ (by omega) (fun i hi => (h i hi).2.2) (fun i hi => (h2 i (by omega)).2.2) he⟩
     ·refine .inr ⟨fun ⟨N',H',o,l,e⟩ => ?_,_,qpn hs ⟨hm,q0⟩ (by omega) (fun i hi => (h i hi).2.2) (fun i hi => (h2 i (by omega)).2.2) he⟩
      have t :=e ▸ qot o l
      obtain ⟨u1,u2⟩ :=qt6 t ⟨hm,e0⟩ (by omega) (fun i hi => ⟨(h i hi).1,(h i hi).2.1⟩) (fun i hi => ⟨(h2 i (by omega)).1,(h2 i (by omega)).2.1⟩)
      rw [u1,u2] at he
      exact he e
    ·subst hN
     rcases qwm (k :=2) qn4 (s :=gB (spl 10 s) (H.length + (N.length + 1))) (by have :=hg (H.length + (N.length + 1));omega) with ⟨n,hn,e1,q1⟩ | ⟨h1,why,q1⟩
     ·exact absurd ⟨n,hn,e1,hn,q1⟩ hb
     ·refine .inr ⟨fun ⟨N',H',o,l,e⟩ => ?_,_,qsb (m :=(spl 10 s).length - 3 - N.length) hs ⟨hm,q0⟩ (by omega) (fun i hi => (h i hi).2.2) (fun i hi => (h2 i hi).2.2) hH q1⟩
      have t :=e ▸ qot o l
      have k :=t.l0
      rw [k,qg8 l] at e0
      simp only [List.cons.injEq,and_true] at e0
      have k2 :=qeh _ l _ hm e0.2
      have k3 :=t.len
      have k4 :=t.lH H.length (by omega)
      rw [k2] at k4
      refine h1 ⟨gn H' H.length,qu6 o (by omega),?_⟩
      rw [k4]
      exact qqn (qu6 o (by omega))
   ·rcases qxl (k :=1) qn3 (s :=gB (spl 10 s) (N.length + 1)) (by have :=hg (N.length + 1);omega) with ⟨a,b,c,hn,e1,q1⟩ | ⟨h1,why,q1⟩
    ·exact absurd ⟨(a,b,c),hn,e1,hn,q1⟩ hb
    ·refine .inr ⟨fun ⟨N',H',o,l,e⟩ => ?_,_,qsa hs ⟨hm,q0⟩ (by omega) (fun i hi => (h i hi).2.2) hN q1⟩
     have t :=e ▸ qot o l
     have k :=t.l0
     rw [k,qg8 l] at e0
     simp only [List.cons.injEq,and_true] at e0
     have k2 :=qeh _ l _ hm e0.2
     have k4 :=t.lN N.length (by omega)
     refine h1 ⟨_,_,_,qu8 o (i :=N.length) (by omega),?_⟩
     rw [k4]
     exact qql (qu8 o (by omega))
 ·refine .inr ⟨fun ⟨N,H,o,l,e⟩ => ?_,_,qr9 hs q0⟩
  have t :=e ▸ qot o l
  refine h0 ⟨N.length,l,?_⟩
  rw [t.l0]
  exact qg8 l
end
end Go.Abs.Seat
namespace Go.Abs.Seat
noncomputable section
open Go Go.Abs Go.Proofs.Tryz
set_option maxRecDepth 100000
set_option maxHeartbeats 40000000
attribute [local irreducible] IntKind.wrap pEq
theorem qv4 {n:Nat} (h:tN n):n < 100 :=by
 have :=h.2
 omega
theorem pcN.okT {N:List Lk} {H:List Nat} (h:pcN N H):okT N H :=by
 have l5 :=h.l5
 refine ⟨fun x hx => ?_,fun n hn => by have :=(h.hd n hn).2;omega⟩
 obtain ⟨i,hi,e⟩ :=List.getElem_of_mem hx
 have g:gN N i = x :=by rw [← e];simp [gN,List.getD,hi]
 have h1 :=h.ok.wf i hi
 have h2 :=h.ok.t1 i hi
 have h3 :=h.ok.t2 i hi
 rw [g] at h1 h2 h3
 exact ⟨by omega,qv4 h2,qv4 h3⟩
theorem qpe {N:List Lk} {H:List Nat} (h:pcN N H):Pure prog 42 [.agg [nkA N,nl (zl H)]] (.tup [.str (prtB N H),iv 0]) :=by
 have l5 :=h.l5
 have h4 :=h.h4
 have e :=h.isP
 have pT :=qjs (x :=nkA N) (y :=nl (zl H)) h.okT (by omega) (by omega) (.inr ⟨rfl,fun z => by have :=h.l1;rw [z] at this;exact absurd this (by decide)⟩) (.inr ⟨rfl,fun z => by have :=h.h1;rw [z] at this;exact absurd this (by decide)⟩)
 have lX :=qa5 (cL N)
 have lY :=qau (zl H)
 refine qan hE rfl (by repeat' first|exact trivial|assumption|exact qae _|exact fun _ h => nomatch h|apply And.intro) (by repeat' first|exact trivial|assumption|exact qae _|exact fun _ h => nomatch h|apply And.intro) fun S q pc hS hq hC hE => ?_
 conv => whnf
 repeat ((first|refine qab hC (e) ?_|refine qab hC (pT) ?_|refine qad hS (by kernel_rfl) ?_);conv => whnf)
 exact ⟨_,rfl,Wk.refl _⟩
theorem qrd (cst:Bool) (s:List UInt8):q0 20 cst (.iface 145 (.agg [.str s])) .nili = some false :=by kernel_rfl
theorem qno {s:List UInt8} (hs:s.length ≤ 200) (ht:¬ ∃ N H,isT s N H):Pure prog 44 [.str s] (.tup [.agg [.nils,.nils],iv 4]) :=by
 have e:decide ((s.length:Int) > 200) = false :=decide_eq_false (by omega)
 obtain ⟨N',H',t',p⟩ | ⟨_,why,p⟩ :=qjz (s :=s) (by omega)
 ·exact absurd ⟨N',H',t'⟩ ht
 ·refine qan hE rfl (by repeat' first|exact trivial|assumption|exact qae _|exact fun _ h => nomatch h|apply And.intro) (by repeat' first|exact trivial|assumption|exact qae _|exact fun _ h => nomatch h|apply And.intro) fun S q pc hS hq hC hE => ?_
  conv => whnf
  repeat ((first|refine qar e ?_|refine qas e ?_|refine pkF e ?_|refine qac e ?_|refine qad hS (by kernel_rfl) ?_);conv => whnf)
  refine qap hC ?_
  conv => whnf
  refine qa0 hS (p) ?_
  conv => whnf
  refine qv5 hE hS ?_
  conv => whnf
  refine qe8 hq false (qrd _ _) ?_
  conv => whnf
  exact ⟨_,rfl,Wk.refl _⟩

def isLk (s:List UInt8) (VV:List (List Nat)) (i:Nat):Prop :=gB (spl 32 (gB (spl 10 s) (i + 1))) 0 = qni ∧ (VV.getD i []).length = 3
def isHd (s:List UInt8) (VV:List (List Nat)) (i:Nat):Prop :=gB (spl 32 (gB (spl 10 s) (i + 1))) 0 = qoo ∧ (VV.getD i []).length = 1
instance (s:List UInt8) (VV:List (List Nat)) (i:Nat):Decidable (isLk s VV i) :=Classical.propDecidable _
instance (s:List UInt8) (VV:List (List Nat)) (i:Nat):Decidable (isHd s VV i) :=Classical.propDecidable _
def lkF (s:List UInt8) (VV:List (List Nat)):Nat → List Lk
 | 0 => []
 |i + 1 => if isLk s VV i then lkF s VV i ++ [(gn (VV.getD i []) 0,gn (VV.getD i []) 1,gn (VV.getD i []) 2)] else lkF s VV i
def hdF (s:List UInt8) (VV:List (List Nat)):Nat → List Nat
 | 0 => []
 |i + 1 => if isHd s VV i then hdF s VV i ++ [gn (VV.getD i []) 0] else hdF s VV i
def rowV (s:List UInt8) (i:Nat) (V:List Nat):Prop :=∀ k,k < V.length → gn V k < 100 ∧ gB (spl 32 (gB (spl 10 s) (i + 1))) (k + 1) = dec (gn V k)
abbrev rF:AV :=.tup [.agg [.nils,.nils],.bool false]
def endR (s:List UInt8) (VV:List (List Nat)) (r:AV):Prop :=
 (VV.length = (spl 10 s).length - 3 ∧ ((prtB (lkF s VV VV.length) (hdF s VV VV.length) = s ∧ r = .tup [.agg [xN (lkF s VV VV.length),yH (hdF s VV VV.length)],.bool true]) ∨ (prtB (lkF s VV VV.length) (hdF s VV VV.length) ≠ s ∧ r = rF))) ∨
 (VV.length < (spl 10 s).length - 3 ∧ r = rF ∧ ∃ V,rowV s VV.length V ∧ V.length + 1 < (spl 32 (gB (spl 10 s) (VV.length + 1))).length ∧ Pure prog 98 [.str (gB (spl 32 (gB (spl 10 s) (VV.length + 1))) (V.length + 1))] (iv (-1)))
theorem endR.no {s:List UInt8} {VV:List (List Nat)} {r:AV} (h:endR s VV r):Live noL r :=by
 rcases h with ⟨_,⟨_,rfl⟩ | ⟨_,rfl⟩⟩ | ⟨_,rfl,_⟩
 ·exact ⟨⟨qvt _,qvr _,trivial⟩,trivial,trivial⟩
 ·exact ⟨⟨trivial,trivial,trivial⟩,trivial,trivial⟩
 ·exact ⟨⟨trivial,trivial,trivial⟩,trivial,trivial⟩



theorem qr1 {x h:AV} {L:List LkI} {M:List Int} (hx:LL x L) (hh:IL h M) (hs:¬ (L.length ≤ 7 ∧ M.length ≤ 6)):Pure prog 41 [.agg [x,h]] (.bool false) :=by
 have lx :=hx.no
 have lh :=hh.no
 rcases hx with ⟨rfl,rfl⟩ | rfl <;> rcases hh with ⟨rfl,rfl⟩ | rfl
 ·exact absurd ⟨by decide,by decide⟩ hs
 ·have c2:decide ((M.length:Int) ≤ 6) = false :=decide_eq_false fun k => hs ⟨by simp,by omega⟩
  refine qan hE rfl (by repeat' first|exact trivial|assumption|exact qae _|exact fun _ h => nomatch h|apply And.intro) (by repeat' first|exact trivial|assumption|exact qae _|exact fun _ h => nomatch h|apply And.intro) fun S q pc hS hq hC hE => ?_
  conv => whnf
  repeat ((first|refine qar c2 ?_|refine qas c2 ?_|refine pkF c2 ?_|refine qac c2 ?_|refine qad hS (by kernel_rfl) ?_);conv => whnf)
  exact ⟨_,rfl,wkb c2⟩
 ·have c2:decide ((L.length:Int) ≤ 7) = false :=decide_eq_false fun k => hs ⟨by omega,by simp⟩
  refine qan hE rfl (by repeat' first|exact trivial|assumption|exact qae _|exact fun _ h => nomatch h|apply And.intro) (by repeat' first|exact trivial|assumption|exact qae _|exact fun _ h => nomatch h|apply And.intro) fun S q pc hS hq hC hE => ?_
  conv => whnf
  repeat ((first|refine qar c2 ?_|refine qas c2 ?_|refine pkF c2 ?_|refine qac c2 ?_|refine qad hS (by kernel_rfl) ?_);conv => whnf)
  exact ⟨_,rfl,Wk.refl _⟩
 ·by_cases k:L.length ≤ 7
  ·have c1:decide ((L.length:Int) ≤ 7) = true :=decide_eq_true (by omega)
   have c2:decide ((M.length:Int) ≤ 6) = false :=decide_eq_false fun q => hs ⟨k,by omega⟩
   refine qan hE rfl (by repeat' first|exact trivial|assumption|exact qae _|exact fun _ h => nomatch h|apply And.intro) (by repeat' first|exact trivial|assumption|exact qae _|exact fun _ h => nomatch h|apply And.intro) fun S q pc hS hq hC hE => ?_
   conv => whnf
   repeat ((first|refine qaj ‹_› ?_|refine qai ‹_› ?_|refine pkT ‹_› ?_|refine qaa ‹_› ?_|refine qar ‹_› ?_|refine qas ‹_› ?_|refine pkF ‹_› ?_|refine qac ‹_› ?_|refine qad hS (by kernel_rfl) ?_);conv => whnf)
   exact ⟨_,rfl,wkb c2⟩
  ·have c1:decide ((L.length:Int) ≤ 7) = false :=decide_eq_false (by omega)
   refine qan hE rfl (by repeat' first|exact trivial|assumption|exact qae _|exact fun _ h => nomatch h|apply And.intro) (by repeat' first|exact trivial|assumption|exact qae _|exact fun _ h => nomatch h|apply And.intro) fun S q pc hS hq hC hE => ?_
   conv => whnf
   repeat ((first|refine qar c1 ?_|refine qas c1 ?_|refine pkF c1 ?_|refine qac c1 ?_|refine qad hS (by kernel_rfl) ?_);conv => whnf)
   exact ⟨_,rfl,Wk.refl _⟩
theorem qo5 {x h:AV} {L:List LkI} {M:List Int} (hx:LL x L) (hh:IL h M) (h1:L.length ≤ 7) (h2:M.length ≤ 6):Pure prog 41 [.agg [x,h]] (.bool true) :=by
 have c1:decide ((L.length:Int) ≤ 7) = true :=decide_eq_true (by omega)
 have c2:decide ((M.length:Int) ≤ 6) = true :=decide_eq_true (by omega)
 have lx :=hx.no
 have lh :=hh.no
 rcases hx with ⟨rfl,rfl⟩ | rfl <;> rcases hh with ⟨rfl,rfl⟩ | rfl
 all_goals
  refine qan hE rfl (by repeat' first|exact trivial|assumption|exact qae _|exact fun _ h => nomatch h|apply And.intro) (by repeat' first|exact trivial|assumption|exact qae _|exact fun _ h => nomatch h|apply And.intro) fun S q pc hS hq hC hE => ?_
  conv => whnf
  repeat ((first|refine qaj ‹_› ?_|refine qai ‹_› ?_|refine pkT ‹_› ?_|refine qaa ‹_› ?_|refine qad hS (by kernel_rfl) ?_);conv => whnf)
  first|exact ⟨_,rfl,Wk.refl _⟩|exact ⟨_,rfl,wkb c2⟩

end
end Go.Abs.Seat
namespace Go.Abs.Seat
noncomputable section
open Go Go.Abs Go.Proofs.Tryz
set_option maxRecDepth 100000
set_option maxHeartbeats 40000000

end
end Go.Abs.Seat
namespace Go.Abs.Seat
noncomputable section
open Go Go.Abs Go.Proofs.Tryz
set_option maxRecDepth 100000
set_option maxHeartbeats 40000000
attribute [local irreducible] IntKind.wrap pEq
theorem qf0 (a b:Int):Pure prog 106 [iv a,iv b] (.bool (decide ((tth a ∧ tth b) ∧ a ≤ b))) :=by
 by_cases h1:tth a
 ·have c1:decide (tth a) = true :=decide_eq_true h1
  by_cases h2:tth b
  ·have c2:decide (tth b) = true :=decide_eq_true h2
   refine qan hE rfl (by repeat' first|exact trivial|assumption|exact qae _|exact fun _ h => nomatch h|apply And.intro) (by repeat' first|exact trivial|assumption|exact qae _|exact fun _ h => nomatch h|apply And.intro) fun S q pc hS hq hC hE => ?_
   conv => whnf
   repeat ((first|refine qaj ‹_› ?_|refine qai ‹_› ?_|refine pkT ‹_› ?_|refine qaa ‹_› ?_|refine qaj (qaw ‹_›) ?_|refine qai (qaw ‹_›) ?_|refine pkT (qaw ‹_›) ?_|refine qaa (qaw ‹_›) ?_|refine qab hC (qby a) ?_|refine qab hC (qby b) ?_|refine qad hS (by kernel_rfl) ?_);conv => whnf)
   exact ⟨_,rfl,wkb (by simp [h1,h2])⟩
  ·have c2:decide (tth b) = false :=decide_eq_false h2
   refine qan hE rfl (by repeat' first|exact trivial|assumption|exact qae _|exact fun _ h => nomatch h|apply And.intro) (by repeat' first|exact trivial|assumption|exact qae _|exact fun _ h => nomatch h|apply And.intro) fun S q pc hS hq hC hE => ?_
   conv => whnf
   repeat ((first|refine qaj ‹_› ?_|refine qai ‹_› ?_|refine pkT ‹_› ?_|refine qaa ‹_› ?_|refine qar ‹_› ?_|refine qas ‹_› ?_|refine pkF ‹_› ?_|refine qac ‹_› ?_|refine qaj (qaw ‹_›) ?_|refine qai (qaw ‹_›) ?_|refine pkT (qaw ‹_›) ?_|refine qaa (qaw ‹_›) ?_|refine qar (qba ‹_›) ?_|refine qas (qba ‹_›) ?_|refine pkF (qba ‹_›) ?_|refine qac (qba ‹_›) ?_|refine qab hC (qby a) ?_|refine qab hC (qby b) ?_|refine qad hS (by kernel_rfl) ?_);conv => whnf)
   exact ⟨_,rfl,wkb (by simp [h2])⟩
 ·have c1:decide (tth a) = false :=decide_eq_false h1
  refine qan hE rfl (by repeat' first|exact trivial|assumption|exact qae _|exact fun _ h => nomatch h|apply And.intro) (by repeat' first|exact trivial|assumption|exact qae _|exact fun _ h => nomatch h|apply And.intro) fun S q pc hS hq hC hE => ?_
  conv => whnf
  repeat ((first|refine qar c1 ?_|refine qas c1 ?_|refine pkF c1 ?_|refine qac c1 ?_|refine qar (qba c1) ?_|refine qas (qba c1) ?_|refine pkF (qba c1) ?_|refine qac (qba c1) ?_|refine qab hC (qby a) ?_|refine qad hS (by kernel_rfl) ?_);conv => whnf)
  exact ⟨_,rfl,wkb (by simp [h1])⟩
theorem qex (a b:Int):Pure prog 107 [fv a b] (.bool (decide (isF a b))) :=by
 by_cases h1:0 ≤ a ∧ a ≤ 50000
 ·have c1:decide (0 ≤ a ∧ a ≤ 50000) = true :=decide_eq_true h1
  refine qan hE rfl (by repeat' first|exact trivial|assumption|exact qae _|exact fun _ h => nomatch h|apply And.intro) (by repeat' first|exact trivial|assumption|exact qae _|exact fun _ h => nomatch h|apply And.intro) fun S q pc hS hq hC hE => ?_
  conv => whnf
  repeat ((first|refine qaj c1 ?_|refine qai c1 ?_|refine pkT c1 ?_|refine qaa c1 ?_|refine qaj (qaw c1) ?_|refine qai (qaw c1) ?_|refine pkT (qaw c1) ?_|refine qaa (qaw c1) ?_|refine qab hC (qbk a 0 50000) ?_|refine qab hC (qbk b 1 50000) ?_|refine qad hS (by kernel_rfl) ?_);conv => whnf)
  exact ⟨_,rfl,wkb (by unfold isF;simp [h1])⟩
 ·have c1:decide (0 ≤ a ∧ a ≤ 50000) = false :=decide_eq_false h1
  refine qan hE rfl (by repeat' first|exact trivial|assumption|exact qae _|exact fun _ h => nomatch h|apply And.intro) (by repeat' first|exact trivial|assumption|exact qae _|exact fun _ h => nomatch h|apply And.intro) fun S q pc hS hq hC hE => ?_
  conv => whnf
  repeat ((first|refine qar c1 ?_|refine qas c1 ?_|refine pkF c1 ?_|refine qac c1 ?_|refine qar (qba c1) ?_|refine qas (qba c1) ?_|refine pkF (qba c1) ?_|refine qac (qba c1) ?_|refine qab hC (qbk a 0 50000) ?_|refine qad hS (by kernel_rfl) ?_);conv => whnf)
  exact ⟨_,rfl,wkb (by unfold isF;simp [h1])⟩
theorem qnn (a b n d:Nat) (h1:a * d < 4611686018427387904) (h2:n * b < 4611686018427387904):Pure prog 112 [fv (Int.ofNat a) (Int.ofNat b),fv (Int.ofNat n) (Int.ofNat d)] (qf (dQ n d (a,b))) :=by
 refine qan hE rfl (by repeat' first|exact trivial|assumption|exact qae _|exact fun _ h => nomatch h|apply And.intro) (by repeat' first|exact trivial|assumption|exact qae _|exact fun _ h => nomatch h|apply And.intro) fun S q pc hS hq hC hE => ?_
 conv => whnf
 refine ⟨_,rfl,wkE ?_⟩
 rw [show IntKind.i64.wrap (Int.ofNat a * Int.ofNat d) = Int.ofNat (a * d) from qaz (m :=a * d) (by omega),show IntKind.i64.wrap (Int.ofNat n * Int.ofNat b) = Int.ofNat (n * b) from qaz (m :=n * b) (by omega),
  qev (by show _ ≤ (_:Int) - _;simp only [Int.ofNat_eq_natCast];omega) (by simp only [Int.ofNat_eq_natCast];omega),qsp h1 h2]
 rfl
abbrev hpA (N:List Lk) (M:List Int) (n d:Nat) (W0 W2 W4:AObj):Tr AObj :=
 .node W0 (.node (.cells (.node (nv n) (.node (nv d) .nil .nil) .nil) 2 78) (.node (.cells (.node (nkA N) (.node (nl M) .nil .nil) (.node (pv (zp (rtL N (N.length + 1)))) .nil .nil)) 3 155) .nil .nil) (.node (.cells (.node (.func (.func 111) [] [.ptr 3 0,.ptr 1 0]) .nil .nil) 1 167) .nil .nil)) (.node W2 (.node W4 .nil .nil) .nil)
theorem qqt (N:List Lk) (M:List Int) (n d:Nat) (W0 W2 W4:AObj):HEnd (hpA N M n d W0 W2 W4) 6 :=qeu [W0,.cells (.node (nv n) (.node (nv d) .nil .nil) .nil) 2 78,W2,.cells (.node (nkA N) (.node (nl M) .nil .nil) (.node (pv (zp (rtL N (N.length + 1)))) .nil .nil)) 3 155,W4,.cells (.node (.func (.func 111) [] [.ptr 3 0,.ptr 1 0]) .nil .nil) 1 167] 0 .nil qdh
abbrev lkV (x:Lk):AV :=.agg [nv x.1,nv x.2.1,nv x.2.2]
def wyA (N:List Lk) (n d:Nat) (x:Lk):Nat × Nat :=dQ n d ((rtA N x.1).1 * x.2.1,(rtA N x.1).2 * x.2.2)
structure nwL (N:List Lk) (x:Lk):Prop where
 f:x.1 ≤ N.length
 a:x.2.1 ≤ 60
 b:x.2.2 ≤ 60
theorem qoj {N:List Lk} (h:okN N) {n d:Nat} (hn:n ≤ 50000) (hd:d ≤ 50000) {x:Lk} (hx:nwL N x):((rtA N x.1).1 * x.2.1 ≤ 12960000 ∧ (rtA N x.1).2 * x.2.2 ≤ 12960000) ∧ (wyA N n d x).1 ≤ 648000000000 ∧ (wyA N n d x).2 ≤ 12960000 :=by
 have hb :=qgy h hx.f
 have m1:(rtA N x.1).1 * x.2.1 ≤ 216000 * 60 :=Nat.mul_le_mul hb.1.2 hx.a
 have m2:(rtA N x.1).2 * x.2.2 ≤ 216000 * 60 :=Nat.mul_le_mul hb.2.2 hx.b
 have m3:(rtA N x.1).1 * x.2.1 * d ≤ 12960000 * 50000 :=Nat.mul_le_mul (by omega) hd
 have m4:n * ((rtA N x.1).2 * x.2.2) ≤ 50000 * 12960000 :=Nat.mul_le_mul hn (by omega)
 refine ⟨⟨by omega,by omega⟩,?_,by show (rtA N x.1).2 * x.2.2 ≤ _;omega⟩
 show gp ((rtA N x.1).1 * x.2.1 * d) (n * ((rtA N x.1).2 * x.2.2)) ≤ _
 unfold gp
 omega
theorem qt3 {N:List Lk} (h:okN N) {M:List Int} {n d:Nat} (hn:n ≤ 50000) (hd:d ≤ 50000) {W0 W2 W4:AObj} (b0:BdO 6 W0) (b2:BdO 6 W2) (b4:BdO 6 W4) {x:Lk} (hx:nwL N x) :
  HFun prog 111 [lkV x,.ptr 3 0,.ptr 1 0] (hv (hpA N M n d W0 W2 W4)) 6 (qf (wyA N n d x)) (hv (hpA N M n d W0 W2 W4)) :=by
 have lN :=qa5 (cL N)
 have lM :=qau M
 have lR :=qae (zp (rtL N (N.length + 1)))
 have hBd:ObBd 6 (hpA N M n d W0 W2 W4) 6 :=by
  repeat' (first|exact trivial|exact b0|exact b2|exact b4|exact Nat.zero_le _|exact qaf lN|exact qaf lM|exact qaf lR|exact kle rfl|apply And.intro|exact Nat.max_le.2 ⟨Nat.zero_le _,qaf lN⟩)
 refine qgi hE rfl (qqt N M n d W0 W2 W4) (kle rfl) (Nat.zero_le _) hBd hBd fun S q pc hS hq hC hE => ?_
 have hf :=hx.f
 have hb :=qoj h hn hd hx
 have tk:qbo 2 (qb4 (x.1 * 2) (flat (zp (rtL N (N.length + 1))))) = some [nv (rtA N x.1).1,nv (rtA N x.1).2] :=by
  rw [qgp _ (by rw [qbn];omega),qe0 N (by omega)]
 have m3:(rtA N x.1).1 * x.2.1 * d ≤ 12960000 * 50000 :=Nat.mul_le_mul hb.1.1 hd
 have m4:n * ((rtA N x.1).2 * x.2.2) ≤ 50000 * 12960000 :=Nat.mul_le_mul hn hb.1.2
 conv => whnf
 refine qaa ((show inR (Int.ofNat x.1) (zp (rtL N (N.length + 1))).length = true by rw [qcj,qbn];exact qaq (by omega))) ?_
 conv => whnf
 refine qal (takP tk) ?_
 conv => whnf
 rw [mulN (a :=(rtA N x.1).1) (b :=x.2.1) (by omega),mulN (a :=(rtA N x.1).2) (b :=x.2.2) (by omega)]
 refine qab hC (qnn ((rtA N x.1).1 * x.2.1) ((rtA N x.1).2 * x.2.2) n d (by omega) (by omega)) ?_
 conv => whnf
 exact ⟨_,rfl,WkV.refl _,rfl,rfl,rfl,rfl,rfl,rfl,trivial⟩
theorem ob6 {h h':Tr AObj} (e0:hv h 0 = hv h' 0) (e1:hv h 1 = hv h' 1) (e2:hv h 2 = hv h' 2) (e3:hv h 3 = hv h' 3) (e4:hv h 4 = hv h' 4) (e5:hv h 5 = hv h' 5):∀ i,i < 6 → hv h i = hv h' i
 | 0,_ => e0
 | 1,_ => e1
 | 2,_ => e2
 | 3,_ => e3
 | 4,_ => e4
 | 5,_ => e5
 | _ + 6,h => absurd h (by omega)
def btL (N:List Lk) (n d:Nat) (x y:Lk):Prop :=(wyA N n d x).1 * (wyA N n d y).2 < (wyA N n d y).1 * (wyA N n d x).2
instance (N:List Lk) (n d:Nat) (x y:Lk):Decidable (btL N n d x y) :=Nat.decLt _ _
theorem qs4 {N:List Lk} (h:okN N) {M:List Int} {n d:Nat} (hn:n ≤ 50000) (hd:d ≤ 50000) {W0 W2 W4:AObj} (b0:BdO 6 W0) (b2:BdO 6 W2) (b4:BdO 6 W4) {x y:Lk} (hx:nwL N x) (hy:nwL N y) :
  HFun prog 114 [lkV x,lkV y,.ptr 5 0] (hv (hpA N M n d W0 W2 W4)) 6 (.bool (decide (btL N n d x y))) (hv (hpA N M n d W0 W2 W4)) :=by
 have lN :=qa5 (cL N)
 have lM :=qau M
 have lR :=qae (zp (rtL N (N.length + 1)))
 have hBd:ObBd 6 (hpA N M n d W0 W2 W4) 6 :=by
  repeat' (first|exact trivial|exact b0|exact b2|exact b4|exact Nat.zero_le _|exact qaf lN|exact qaf lM|exact qaf lR|exact kle rfl|apply And.intro|exact Nat.max_le.2 ⟨Nat.zero_le _,qaf lN⟩)
 have ax :=qt3 h (M :=M) hn hd b0 b2 b4 hx
 have ay :=qt3 h (M :=M) hn hd b0 b2 b4 hy
 have gx :=(qoj h hn hd hx).2
 have gy :=(qoj h hn hd hy).2
 have m1:(wyA N n d x).1 * (wyA N n d y).2 ≤ 648000000000 * 12960000 :=Nat.mul_le_mul gx.1 gy.2
 have m2:(wyA N n d y).1 * (wyA N n d x).2 ≤ 648000000000 * 12960000 :=Nat.mul_le_mul gy.1 gx.2
 refine qgi hE rfl (qqt N M n d W0 W2 W4) (kle rfl) (Nat.zero_le _) hBd hBd fun S q pc hS hq hC hE => ?_
 conv => whnf
 refine qbg hC (HFun.pureR ax (ob6 rfl rfl rfl rfl rfl rfl)) ?_
 conv => whnf
 refine qbg hC (HFun.pureR ay (ob6 rfl rfl rfl rfl rfl rfl)) ?_
 conv => whnf
 refine qad hS (by kernel_rfl) ?_
 conv => whnf
 refine ⟨_,rfl,WkV.eq ?_,rfl,rfl,rfl,rfl,rfl,rfl,trivial⟩
 rw [mulN (a :=(wyA N n d x).1) (b :=(wyA N n d y).2) (by omega),mulN (a :=(wyA N n d y).1) (b :=(wyA N n d x).2) (by omega)]
 exact congrArg AV.bool (decide_eq_decide.2 Int.ofNat_lt)
def bsN (N:List Lk) (n d:Nat) (l:List Lk):Nat → Lk
 | 0 => (0,0,0)
 |i + 1 => if i = 0 ∨ btL N n d (gN l i) (bsN N n d l i) then gN l i else bsN N n d l i
theorem qt0 {N:List Lk} {n d:Nat} {l:List Lk} (hl:∀ x,x ∈ l → nwL N x):∀ i,i ≤ l.length → nwL N (bsN N n d l i)
 | 0,_ => ⟨Nat.zero_le _,Nat.zero_le _,Nat.zero_le _⟩
 |i + 1,h => by
  rw [bsN]
  split
  ·exact hl _ (qtl l h)
  ·exact qt0 hl i (by omega)
def orE {α:Type} (o p:Option α):Option α :=match o with | some x => some x | none => p
def fstO {α:Type} (f:Nat → Option α):Nat → Nat → Option α
 | _,0 => none
 |k,n + 1 => orE (f k) (fstO f (k + 1) n)
def sr0 (N:List Lk) (H:List Nat) (hand:Nat) (t:Nat × Nat) (now:List Lk) (_:Nat):Option (List Lk) :=if suP N now H hand t then some [] else none
def stC (g:List Lk → Nat → Option (List Lk)) (N now:List Lk) (i a b:Nat):Option (List Lk) :=if (gN N i).2 = (a,b) then none else (g (chN now i a b) (i + 1)).map ((i,a,b) :: ·)
def srS (g:List Lk → Nat → Option (List Lk)) (N:List Lk) (lo hi:Nat) (now:List Lk) (fr:Nat):Option (List Lk) :=
 fstO (fun i => fstO (fun a => fstO (fun b => stC g N now i a b) lo (hi + 1 - lo)) lo (hi + 1 - lo)) fr (N.length - fr)
def srV:Option (List Lk) → AV
 |none => .tup [.nils,.bool false]
 |some [] => .tup [.nils,.bool true]
 |some (c :: r) => .tup [nkA (c :: r),.bool true]
theorem qu9 (N:List Lk) (i a b j:Nat) (hi:i < N.length):gN (chN N i a b) j = if j = i then ((gN N i).1,a,b) else gN N j :=by
 unfold chN gN
 by_cases e:j = i
 ·subst e
  rw [if_pos rfl,List.getD,List.getElem?_set_self hi];rfl
 ·rw [if_neg e,List.getD,List.getElem?_set_ne (fun z => e z.symm)];rfl
theorem qhl (N:List Lk) (i a b:Nat):(chN N i a b).length = N.length :=List.length_set
theorem qtw (N:List Lk) (i a b j:Nat) (hi:i < N.length):(gN (chN N i a b) j).1 = (gN N j).1 :=by
 rw [qu9 N i a b j hi]
 split
 ·rename_i e;subst e;rfl
 ·rfl
theorem qtc {N:List Lk} {i a b:Nat} (hi:i < N.length):∀ (f x:Nat),(trF (chN N i a b) f x).length = (trF N f x).length
 | _,0 => by cases ‹Nat› <;> rfl
 | 0,_ + 1 => rfl
 |f + 1,x + 1 => by rw [trF,trF,List.length_append,List.length_append,qtw N i a b x hi,qtc hi f];rfl
theorem okN.ch {N:List Lk} (h:okN N) {i a b:Nat} (hi:i < N.length) (ha:tN a) (hb:tN b):okN (chN N i a b) :=by
 refine ⟨fun j hj => ?_,fun j hj => ?_,fun j hj => ?_,fun j hj => ?_⟩
 ·rw [qtw N i a b j hi];exact h.wf j (by rw [qhl] at hj;exact hj)
 ·rw [qhl] at hj
  rw [qu9 N i a b j hi]
  split
  ·exact ha
  ·exact h.t1 j hj
 ·rw [qhl] at hj
  rw [qu9 N i a b j hi]
  split
  ·exact hb
  ·exact h.t2 j hj
 ·rw [qhl] at hj
  unfold tr
  rw [qtc hi]
  exact h.d j hj
theorem eqPr (cst:Bool) (a b c d:Int):q0 86 cst (fv a b) (fv c d) = @Bool.rec (fun _ => Option Bool) (some false) (@Bool.rec (fun _ => Option Bool) (some false) (some true) (b == d)) (a == c) :=by kernel_rfl
theorem qtt (cst:Bool) (a b c d:Nat):q0 86 cst (fv (Int.ofNat a) (Int.ofNat b)) (fv (Int.ofNat c) (Int.ofNat d)) = some (decide ((c,d) = (a,b))) :=by
 rw [eqPr]
 by_cases h1:a = c
 ·subst h1
  rw [beq_self_eq_true]
  by_cases h2:b = d
  ·subst h2
   rw [beq_self_eq_true,decide_eq_true rfl]
  ·rw [show (Int.ofNat b == Int.ofNat d) = false from beq_eq_false_iff_ne.2 fun z => h2 (Int.ofNat.inj z),decide_eq_false fun z => h2 (Prod.mk.inj z).2.symm]
 ·rw [show (Int.ofNat a == Int.ofNat c) = false from beq_eq_false_iff_ne.2 fun z => h1 (Int.ofNat.inj z),decide_eq_false fun z => h1 (Prod.mk.inj z).1.symm]
abbrev hpC (N:List Lk) (H:List Nat) (lo hi hand:Nat) (t:Nat × Nat):Tr AObj :=
 .node (.cells (.node (nkA N) (.node (nl (zl H)) .nil .nil) .nil) 2 64) (.node (.cells (.node (nv lo) .nil .nil) 1 3) (.node (.cells (.node (nv hand) .nil .nil) 1 3) (.node .hole (.node .hole (.nil) (.nil)) (.nil)) (.node .hole (.nil) (.nil))) (.node .hole (.node .hole (.nil) (.nil)) (.node (.cells (.node (nv t.1) (.node (nv t.2) .nil .nil) .nil) 2 161) (.nil) (.nil)))) (.node (.cells (.node (nv hi) .nil .nil) 1 3) (.node (.cells (.node (nv t.1) (.node (nv t.2) .nil .nil) .nil) 2 78) (.node .hole (.node (.cells (.node (.func (.func 108) [] [.ptr 12 0,.ptr 3 0,.ptr 13 0,.ptr 0 0,.ptr 1 0,.ptr 2 0,.ptr 16 0]) .nil .nil) 1 162) (.nil) (.nil)) (.nil)) (.node (.cells (.node (nkA N) (.node (nl (zl H)) .nil .nil) (.node (pv (zp (rtL N (N.length + 1)))) .nil .nil)) 3 155) (.nil) (.nil))) (.node .hole (.node .hole (.nil) (.nil)) (.node .hole (.nil) (.nil))))
theorem qqs (N:List Lk) (H:List Nat) (lo hi hand:Nat) (t:Nat × Nat):HEnd (hpC N H lo hi hand t) 17 :=qeu [(.cells (.node (nkA N) (.node (nl (zl H)) .nil .nil) .nil) 2 64),(.cells (.node (nv lo) .nil .nil) 1 3),(.cells (.node (nv hi) .nil .nil) 1 3),(.cells (.node (nv hand) .nil .nil) 1 3),(.cells (.node (nv t.1) (.node (nv t.2) .nil .nil) .nil) 2 78),.hole,.hole,.hole,.hole,.hole,.hole,.hole,(.cells (.node (nkA N) (.node (nl (zl H)) .nil .nil) (.node (pv (zp (rtL N (N.length + 1)))) .nil .nil)) 3 155),(.cells (.node (nv t.1) (.node (nv t.2) .nil .nil) .nil) 2 161),.hole,.hole,(.cells (.node (.func (.func 108) [] [.ptr 12 0,.ptr 3 0,.ptr 13 0,.ptr 0 0,.ptr 1 0,.ptr 2 0,.ptr 16 0]) .nil .nil) 1 162)] 0 .nil qdh
abbrev scA (now:List Lk) (H:List Nat) (fr k:Nat):List AV :=[.agg [nkA now,nl (zl H)],nv fr,nv k,.ptr 12 0,.ptr 3 0,.ptr 13 0,.ptr 0 0,.ptr 1 0,.ptr 2 0,.ptr 16 0]
theorem qtj (N:List Lk) (H:List Nat) (lo hi hand:Nat) (t:Nat × Nat):ObBd 17 (hpC N H lo hi hand t) 17 :=by
 have lN :=qa5 (cL N)
 have lM :=qau (zl H)
 have lR :=qae (zp (rtL N (N.length + 1)))
 repeat' (first|exact trivial|exact Nat.zero_le _|exact qaf lN|exact qaf lM|exact qaf lR|exact kle rfl|apply And.intro|exact Nat.max_le.2 ⟨Nat.zero_le _,qaf lN⟩)
theorem qjw {N now:List Lk} (h:okN N) (h2:okN now) (h1:1 ≤ N.length) (hN:N.length ≤ 5) (hl:now.length = N.length) {H:List Nat} (hH:hdN N.length H) (lo hi:Nat) {hand:Nat} (hh:hand < H.length) {t:Nat × Nat} (t1:t.1 ≤ 50000) (t2:t.2 ≤ 50000) (fr:Nat) :
  HFun prog 108 (scA now H fr 0) (hv (hpC N H lo hi hand t)) 17 (srV (sr0 N H hand t now fr)) (hv (hpC N H lo hi hand t)) :=by
 have lN :=qa5 (cL N)
 have lN2 :=qa5 (cL now)
 have lM :=qau (zl H)
 have lR :=qae (zp (rtL N (N.length + 1)))
 have pw :=qgm h2 (by omega) (by omega) (zl H)
 have ps :=qnl h h2 hN hl hH hh t1 t2
 have lR2 :=qae (zp (rtL now (now.length + 1)))
 have hb :=qtj N H lo hi hand t
 unfold wiV at pw ps
 have ev:srV (sr0 N H hand t now fr) = .tup [.nils,.bool (decide (suP N now H hand t))] :=by
  unfold sr0
  by_cases e:suP N now H hand t
  ·rw [if_pos e,decide_eq_true e];rfl
  ·rw [if_neg e,decide_eq_false e];rfl
 rw [ev]
 refine qgi hE rfl (qqs N H lo hi hand t) (Nat.max_le.2 ⟨Nat.max_le.2 ⟨Nat.max_le.2 ⟨Nat.zero_le _,qaf lN2⟩,Nat.max_le.2 ⟨Nat.max_le.2 ⟨Nat.zero_le _,qaf lM⟩,Nat.zero_le _⟩⟩,kle rfl⟩) (Nat.zero_le _) hb hb fun S q pc hS hq hC hE => ?_
 conv => whnf
 refine qab hC (pw) ?_
 conv => whnf
 refine qab hC (ps) ?_
 conv => whnf
 refine qad hS (by kernel_rfl) ?_
 conv => whnf
 exact ⟨_,rfl,WkV.refl _,rfl,rfl,rfl,rfl,rfl,rfl,rfl,rfl,rfl,rfl,rfl,rfl,rfl,rfl,rfl,rfl,rfl,trivial⟩



theorem qt9 (l:List Int) (hl:l.length < 4611686018427387904):Pure prog 18 [sv l,sv l] (.bool true) :=by
 cases l with
 |nil =>
  show Pure prog _ [.nils,.nils] _
  refine qan hE rfl (by repeat' first|exact trivial|assumption|exact qae _|exact fun _ h => nomatch h|apply And.intro) (by repeat' first|exact trivial|assumption|exact qae _|exact fun _ h => nomatch h|apply And.intro) fun S q pc hS hq hC hE => ?_
  conv => whnf
  repeat ((first|refine qab hC (hl) ?_|refine qad hS (by kernel_rfl) ?_|refine qe8 hq true (qlr _ _) ?_|rw [beq_self_eq_true]|rw [bne_self_eq_false]|refine qaa (decide_eq_true (by omega)) ?_|refine qac (decide_eq_false (by omega)) ?_);conv => whnf)
  refine qah hE hS ?_
  conv => whnf
  exact ⟨_,rfl,Wk.refl _⟩
 |cons x r => exact qpb (x :: r) (x :: r) hl (b :=true) ⟨fun _ => rfl,fun _ => rfl⟩
theorem qpc:Pure prog 46 [.agg [.nils,.nils],.agg [.nils,.nils]] (.bool true) :=by
 have p :=qt9 [] (by decide)
 refine qan hE rfl (by repeat' first|exact trivial|assumption|exact qae _|exact fun _ h => nomatch h|apply And.intro) (by repeat' first|exact trivial|assumption|exact qae _|exact fun _ h => nomatch h|apply And.intro) fun S q pc hS hq hC hE => ?_
 conv => whnf
 refine qah hE hS ?_
 conv => whnf
 repeat ((first|refine qab hC (p) ?_|refine qad hS (by kernel_rfl) ?_);conv => whnf)
 exact ⟨_,rfl,Wk.refl _⟩
end
end Go.Abs.Seat
namespace Go.Abs.Seat
noncomputable section
open Go Go.Abs
set_option maxRecDepth 100000
set_option maxHeartbeats 40000000
theorem qo2 (c d:UInt8) (hd:d ≠ c):∀ (s:List UInt8) (i:Nat),i < s.length → s.getD i 0 ≠ c → ∃ j k,j < (spl c s).length ∧ k < (gB (spl c s) j).length ∧ (gB (spl c s) j).getD k 0 = s.getD i 0 ∧ spl c (s.set i d) = (spl c s).set j ((gB (spl c s) j).set k d)
 | [],i,h,_ => absurd h (Nat.not_lt_zero _)
 |b :: r,0,_,hb => by
  have hb:b ≠ c :=hb
  cases e:spl c r with
  |nil => exact absurd e (qgt c r)
  |cons x t =>
   have e1:spl c (b :: r) = (b :: x) :: t :=by rw [spl,if_neg hb,e]
   have e2:spl c (d :: r) = (d :: x) :: t :=by rw [spl,if_neg hd,e]
   refine ⟨0,0,?_,?_,?_,?_⟩
   ·rw [e1];exact Nat.succ_pos _
   ·rw [e1];exact Nat.succ_pos _
   ·rw [e1];rfl
   ·show spl c (d :: r) = _
    rw [e1,e2];rfl
 |b :: r,i + 1,h,hb => by
  obtain ⟨j,k,h1,h2,h3,h4⟩ :=qo2 c d hd r i (Nat.lt_of_succ_lt_succ h) hb
  by_cases e:b = c
  ·have e1:spl c (b :: r) = [] :: spl c r :=by rw [spl,if_pos e]
   have e2:spl c (b :: r.set i d) = [] :: spl c (r.set i d) :=by rw [spl,if_pos e]
   refine ⟨j + 1,k,?_,?_,?_,?_⟩
   ·rw [e1];exact Nat.succ_lt_succ h1
   ·rw [e1];exact h2
   ·rw [e1];exact h3
   ·show spl c (b :: r.set i d) = _
    rw [e1,e2,h4];rfl
  ·cases f:spl c r with
   |nil => exact absurd f (qgt c r)
   |cons x t =>
    have e1:spl c (b :: r) = (b :: x) :: t :=by rw [spl,if_neg e,f]
    rw [f] at h1 h2 h3 h4
    cases j with
    |zero =>
     have e2:spl c (b :: r.set i d) = (b :: x.set k d) :: t :=by rw [spl,if_neg e,h4];rfl
     refine ⟨0,k + 1,?_,?_,?_,?_⟩
     ·rw [e1];exact Nat.succ_pos _
     ·rw [e1];exact Nat.succ_lt_succ h2
     ·rw [e1];exact h3
     ·show spl c (b :: r.set i d) = _
      rw [e1,e2];rfl
    |succ j =>
     have e2:spl c (b :: r.set i d) = (b :: x) :: t.set j ((gB t j).set k d) :=by rw [spl,if_neg e,h4];rfl
     refine ⟨j + 1,k,?_,?_,?_,?_⟩
     ·rw [e1];exact h1
     ·rw [e1];exact h2
     ·rw [e1];exact h3
     ·show spl c (b :: r.set i d) = _
      rw [e1,e2];rfl
theorem qrl {s:List UInt8} {i k:Nat} {d:UInt8} (hk:k < s.length):∀ n,n ≤ s.length → ckL (s.set k d) i n + (if k < n then (s.getD k 0).toNat * (k + 1) * (i + 1) else 0) = ckL s i n + (if k < n then d.toNat * (k + 1) * (i + 1) else 0)
 | 0,_ => rfl
 |n + 1,hn => by
  have ih :=qrl (d :=d) (i :=i) hk n (by omega)
  rw [ckL,ckL]
  by_cases e:n = k
  ·subst e
   rw [if_neg (Nat.lt_irrefl _),if_neg (Nat.lt_irrefl _)] at ih
   rw [if_pos (Nat.lt_succ_self _),if_pos (Nat.lt_succ_self _)]
   have g:(s.set n d).getD n 0 = d :=by simp [List.getD,hk]
   rw [g]
   omega
  ·have g:(s.set k d).getD n 0 = s.getD n 0 :=by
    simp only [List.getD_eq_getElem?_getD]
    rw [List.getElem?_set_ne (Ne.symm e)]
   rw [g]
   by_cases f:k < n
   ·rw [if_pos f,if_pos f] at ih
    rw [if_pos (by omega),if_pos (by omega)]
    omega
   ·rw [if_neg f,if_neg f] at ih
    rw [if_neg (by omega),if_neg (by omega)]
    omega
theorem qrk {l:List (List UInt8)} {j k:Nat} {d:UInt8} (hj:j < l.length) (hk:k < (gB l j).length):∀ n,n ≤ l.length → ckN (l.set j ((gB l j).set k d)) n + (if j < n then ((gB l j).getD k 0).toNat * (k + 1) * (j + 1) else 0) = ckN l n + (if j < n then d.toNat * (k + 1) * (j + 1) else 0)
 | 0,_ => rfl
 |n + 1,hn => by
  have ih :=qrk (d :=d) hj hk n (by omega)
  rw [ckN,ckN]
  by_cases e:n = j
  ·subst e
   rw [if_neg (Nat.lt_irrefl _),if_neg (Nat.lt_irrefl _)] at ih
   rw [if_pos (Nat.lt_succ_self _),if_pos (Nat.lt_succ_self _)]
   have g:gB (l.set n ((gB l n).set k d)) n = (gB l n).set k d :=by simp [gB,List.getD,hj]
   rw [g]
   have q :=qrl (s :=gB l n) (i :=n) (d :=d) hk ((gB l n).length) (Nat.le_refl _)
   rw [if_pos hk,if_pos hk] at q
   rw [List.length_set]
   omega
  ·have g:gB (l.set j ((gB l j).set k d)) n = gB l n :=by
    simp only [gB,List.getD_eq_getElem?_getD]
    rw [List.getElem?_set_ne (Ne.symm e)]
   rw [g]
   by_cases f:j < n
   ·rw [if_pos f,if_pos f] at ih
    rw [if_pos (by omega),if_pos (by omega)]
    omega
   ·rw [if_neg f,if_neg f] at ih
    rw [if_neg (by omega),if_neg (by omega)]
    omega
theorem qs0:∀ a,a < 127 → ∀ b,b < 127 → endL a = endL b → a = b :=by decide +kernel
theorem qr8:∀ a,a < 9 → ∀ b,b < 16 → ∀ c,c < 11 → (a + 1) * (b + 1) * (c + 1) % 127 ≠ 0 :=by decide +kernel
theorem qmj {N:List Lk} {H:List Nat} (h:okT N H) (hN:N.length < 100):spl 10 (prtB N H) = lnsB N H ++ [endL (ckN (lnsB N H) (lnsB N H).length % 127),[]] :=by
 unfold prtB
 rw [qq5,qtf (qti h hN) _ _ (Nat.le_refl _),List.take_length]
 have k :=qfa 10 [] (endL (ckN (lnsB N H) (lnsB N H).length % 127)) (qre (by omega))
 rw [k]
 rfl
theorem qo1 {N:List Lk} {H:List Nat} (h:okT N H) (hN:N.length < 100) (hl:(lnsB N H).length ≤ 11) {i:Nat} {d:UInt8} (hi:i < (prtB N H).length) (h1:48 ≤ ((prtB N H).getD i 0).toNat) (h2:((prtB N H).getD i 0).toNat ≤ 57) (d1:48 ≤ d.toNat) (d2:d.toNat ≤ 57) (hne:(prtB N H).getD i 0 ≠ d):¬ ∃ N' H',isT ((prtB N H).set i d) N' H' :=by
 rintro ⟨N',H',o,l,e⟩
 have n10:∀ x:UInt8,48 ≤ x.toNat → x ≠ 10 :=fun x hx z => by rw [z] at hx;exact absurd hx (by decide)
 obtain ⟨j,k,j1,k1,g1,q⟩ :=qo2 10 d (n10 d d1) (prtB N H) i hi (n10 _ h1)
 rw [← e,qmj o l] at q
 rw [qmj h hN] at q j1 k1 g1
 obtain ⟨A,eA⟩ : ∃ A,A = lnsB N H :=⟨_,rfl⟩
 obtain ⟨A',eA'⟩ : ∃ A,A = lnsB N' H' :=⟨_,rfl⟩
 rw [← eA] at q j1 k1 g1 hl
 rw [← eA'] at q
 have hlen:A'.length = A.length :=by
  have :=congrArg List.length q
  rw [List.length_append,List.length_set,List.length_append] at this
  simpa using this
 rw [List.length_append] at j1
 have j1:j < A.length + 2 :=j1
 by_cases c1:j < A.length
 ·have g2:gB (A ++ [endL (ckN A A.length % 127),[]]) j = gB A j :=qka c1
  rw [g2] at k1 g1 q
  rw [List.set_append_left _ _ c1] at q
  have q2 :=List.append_inj q (by rw [List.length_set];exact hlen)
  obtain ⟨q3,q4⟩ :=q2
  have q5:endL (ckN A' A'.length % 127) = endL (ckN A A.length % 127) :=(List.cons.inj q4).1
  have q6 :=qs0 _ (by omega) _ (by omega) q5
  have q7 :=qrk (d :=d) c1 k1 A.length (Nat.le_refl _)
  rw [if_pos c1,if_pos c1,← q3,g1] at q7
  rw [hlen] at q6
  have kl:(gB A j).length ≤ 16 :=by rw [eA];exact qhg j
  have hdn:((prtB N H).getD i 0).toNat ≠ d.toNat :=fun z => hne (UInt8.toNat_inj.1 z)
  have key:∀ x y:Nat,48 ≤ x → x < y → y ≤ 57 → ∀ p r:Nat,p % 127 = r % 127 → p + x * (k + 1) * (j + 1) = r + y * (k + 1) * (j + 1) → False :=fun x y x1 x2 x3 p r pr hp => by
   have t1 :=qr8 (y - x - 1) (by omega) k (by omega) j (by omega)
   rw [show y - x - 1 + 1 = y - x by omega] at t1
   have t2:y * (k + 1) * (j + 1) = x * (k + 1) * (j + 1) + (y - x) * (k + 1) * (j + 1) :=by
    rw [← Nat.add_mul,← Nat.add_mul]
    congr 2
    omega
   omega
  rcases Nat.lt_or_gt_of_ne hdn with z | z
  ·exact key _ _ h1 z d2 _ _ q6 q7
  ·exact key _ _ d1 z h2 _ _ q6.symm q7.symm
 ·have q0:A' = A ∧ [endL (ckN A' A'.length % 127),[]] = [endL (ckN A A.length % 127),[]].set (j - A.length) ((gB (A ++ [endL (ckN A A.length % 127),[]]) j).set k d) :=by
   rw [List.set_append_right _ _ (by omega)] at q
   exact List.append_inj q hlen
  obtain ⟨q1,q2⟩ :=q0
  rw [q1] at q2
  by_cases c2:j = A.length
  ·subst c2
   have g2:gB (A ++ [endL (ckN A A.length % 127),[]]) A.length = endL (ckN A A.length % 127) :=by
    simp [gB,List.getD]
   rw [g2] at q2 k1 g1
   rw [Nat.sub_self] at q2
   have q3:endL (ckN A A.length % 127) = (endL (ckN A A.length % 127)).set k d :=(List.cons.inj q2).1
   have q4:(endL (ckN A A.length % 127)).getD k 0 = ((endL (ckN A A.length % 127)).set k d).getD k 0 :=congrArg (fun z:List UInt8 => z.getD k 0) q3
   rw [g1] at q4
   have q5:((endL (ckN A A.length % 127)).set k d).getD k 0 = d :=by simp [List.getD,k1]
   rw [q5] at q4
   exact hne q4
  ·have e1:j = A.length + 1 :=by omega
   subst e1
   have g2:gB (A ++ [endL (ckN A A.length % 127),[]]) (A.length + 1) = [] :=by
    simp [gB,List.getD]
   rw [g2] at k1
   exact absurd k1 (Nat.not_lt_zero _)
end
end Go.Abs.Seat
namespace Go.Abs.Seat
open Go Go.Abs Go.Proofs.Tryz
set_option maxRecDepth 100000
theorem gRates:GoalM noMu [] 48 [aP] (.tup [rows .no [1,1,1,2,1,3,3,4] 4,.lst [.bool true,.bool false,.bool true,.bool true] 4 .no,i64 0]) :=of_eq_true (by kernel_rfl)
theorem pRates:Pure prog 48 [aP] (.tup [rows .no [1,1,1,2,1,3,3,4] 4,.lst [.bool true,.bool false,.bool true,.bool true] 4 .no,i64 0]) :=gRates.pure MOK.nil (by kernel_rfl)
theorem gSpoils:GoalM muLinks [] 50 [aP,.agg [i64 0,i64 10,i64 30]] (.tup [ints .no [0,1],i64 0]) :=of_eq_true (by kernel_rfl)
theorem pSpoils:Pure prog 50 [aP,.agg [i64 0,i64 10,i64 30]] (.tup [ints .no [0,1],i64 0]) :=gSpoils.pure MOK.nil (by kernel_rfl)
theorem gSheets:GoalM noMu [] 40 [i64 100,i64 2,ints .full [10,20,15,10]] (.tup [ints .no [0,0,0,1],i64 2,i64 0]) :=of_eq_true (by kernel_rfl)
theorem pSheets:Pure prog 40 [i64 100,i64 2,ints .full [10,20,15,10]] (.tup [ints .no [0,0,0,1],i64 2,i64 0]) :=gSheets.pure MOK.nil (by kernel_rfl)
theorem gBalances:GoalM noMu [] 14 [i64 3,aE] (.tup [ints .no [-9,6,3],i64 0]) :=of_eq_true (by kernel_rfl)
theorem pBalances:Pure prog 14 [i64 3,aE] (.tup [ints .no [-9,6,3],i64 0]) :=gBalances.pure MOK.nil (by kernel_rfl)
theorem gSettle:GoalM muSettle [] 15 [i64 3,aE] (.tup [rows .no [1,0,6,2,0,3] 2,i64 0]) :=of_eq_true (by kernel_rfl)
theorem pSettle:Pure prog 15 [i64 3,aE] (.tup [rows .no [1,0,6,2,0,3] 2,i64 0]) :=gSettle.pure MOK.nil (by kernel_rfl)
theorem gBill:GoalM noMu [] 57 [aB] (.tup [i64 43,i64 23,i64 0]) :=of_eq_true (by kernel_rfl)
theorem pBill:Pure prog 57 [aB] (.tup [i64 43,i64 23,i64 0]) :=gBill.pure MOK.nil (by kernel_rfl)
theorem gRead:GoalM noMu [] 44 [aText] (.tup [.agg [rows .no [0,4,4] 1,ints .no [1]],i64 0]) :=of_eq_true (by kernel_rfl)
theorem pRead:Pure prog 44 [aText] (.tup [.agg [rows .no [0,4,4] 1,ints .no [1]],i64 0]) :=gRead.pure MOK.nil (by kernel_rfl)
end Go.Abs.Seat
