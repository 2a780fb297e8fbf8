/-
  Books of accounts: the earlier of two settlements, the best of some.
-/
import Derived.Test.YtlmadgdonalncaaGreatDoorB58
import Derived.Test.YtlmadgdonalncaaGreatDoorU7
import Derived.Test.YtlmadgdonalncaaGreatDoorU8
import Derived.Test.YtlmadgdonalncaaGreatDoorU15
namespace Go.Abs.Seat
noncomputable section
open Go Go.Abs Go.Proofs.Tryz
set_option maxRecDepth 100000
set_option maxHeartbeats 40000000
attribute [local irreducible] IntKind.wrap pEq

theorem qp2 (x y:AV) (lx:Live noL x) (ly:Live noL y) (a b:Int) (hx:x = .nils ∨ ∃ l,x = nl l) (hy:y = .nils ∨ ∃ l,y = nl l):Pure prog 76 [.agg [x,iv a],.agg [y,iv b]] (.bool (decide (a < b))) :=by
 rcases hx with rfl | ⟨l,rfl⟩ <;> rcases hy with rfl | ⟨m,rfl⟩
 all_goals
  refine qas hE rfl (by repeat' first|exact trivial|assumption|exact qag _|exact fun _ h => nomatch h|apply And.intro) (by repeat' first|exact trivial|assumption|exact qag _|exact fun _ h => nomatch h|apply And.intro) fun S q pc hS hq hC hE => ?_
  conv => whnf
  exact ⟨_,rfl,Wk.refl _⟩
def bsP:Pln → List Pln → Pln
 |o,[] => o
 |o,y :: r => if y.2 < o.2 then bsP y r else bsP o r
abbrev gP (L:List Pln) (i:Nat):Pln :=L.getD i ([],0)
theorem qq2:∀ (L:List Pln) {i:Nat},i < L.length → qb0 2 (qcl (i * 2) (plE L)) = some [nl (gP L i).1,iv (gP L i).2]
 | [],_,h => absurd h (Nat.not_lt_zero _)
 |x :: r,0,_ => rfl
 |x :: r,i + 1,h => by
  have :=qq2 r (i :=i) (Nat.lt_of_succ_lt_succ h)
  rw [show (i + 1) * 2 = i * 2 + 1 + 1 by omega]
  exact this
theorem qyo (L:List Pln) {i:Nat} (h:i < L.length):L.drop i = gP L i :: L.drop (i + 1) :=by
 rw [List.drop_eq_getElem_cons h]
 simp [h]
theorem qtu:Pure prog 74 [.nils,.func (.func 76) [] []] (.tup [.agg [.nils,iv 0],.bool false]) :=by
 refine qas hE rfl (by repeat' first|exact trivial|assumption|exact qag _|exact fun _ h => nomatch h|apply And.intro) (by repeat' first|exact trivial|assumption|exact qag _|exact fun _ h => nomatch h|apply And.intro) fun S q pc hS hq hC hE => ?_
 conv => whnf
 refine qam hE hS ?_
 conv => whnf
 exact ⟨_,rfl,Wk.refl _⟩
theorem qqk {x:Pln} {r:List Pln} (hl:r.length ≤ 1000):Pure prog 74 [.lst (plE (x :: r)) (x :: r).length .no,.func (.func 76) [] []] (.tup [.agg [nl (bsP x r).1,iv (bsP x r).2],.bool true]) :=by
 have lv :=qep (x :: r)
 have lb :=qal (bsP x r).1
 obtain ⟨L,hle⟩ : ∃ L,L = x :: r :=⟨_,rfl⟩
 rw [← hle] at lv ⊢
 have hll:1 ≤ L.length ∧ L.length ≤ 1001 :=by rw [hle,List.length_cons];omega
 refine qas hE rfl (by repeat' first|exact trivial|assumption|exact qag _|exact fun _ h => nomatch h|apply And.intro) (by repeat' first|exact trivial|assumption|exact qag _|exact fun _ h => nomatch h|apply And.intro) fun S q pc hS hq hC hE => ?_
 conv => whnf
 refine qa4 hE hS (A :=Nat × AV × Int) [0,1,4,5,6,9,10] (fun (i,_,_) => [(11,nv i)]) (fun (_,v,w) => [(1,.cells (.node v (.node (iv w) .nil .nil) .nil) 2 126)]) (fun _ => []) (fun (i,v,w) => i ≤ L.length ∧ (i = 0 ∧ v = .nils ∧ w = 0 ∨ 1 ≤ i ∧ ∃ o:Pln,v = nl o.1 ∧ w = o.2 ∧ bsP o (L.drop i) = bsP x r)) (fun (i,_,_) => L.length - i) (0,.nils,0) (Nat.zero_le _) rfl (zhg 2) ⟨Nat.zero_le _,.inl ⟨rfl,rfl,rfl⟩⟩ ?_
 rintro ⟨i,v,w⟩ ⟨hi,hv⟩ N hN
 obtain rfl:N = 2 :=hN
 have hi:i ≤ L.length :=hi
 have hi1:i < L.length → IntKind.i64.wrap (Int.ofNat i + 1) = Int.ofNat (i + 1) :=fun h => qa7 (m :=i + 1) (by omega)
 have hg0:gP L 0 = x :=by rw [hle];rfl
 have hd0:L.drop 1 = r :=by rw [hle];rfl
 rcases hv with ⟨rfl,rfl,rfl⟩ | ⟨h1,o,rfl,rfl,hb⟩
 ·have h0:0 < L.length :=by omega
  have tk :=qq2 L h0
  rw [hg0] at tk
  conv => whnf
  try have z104:=qa3 h0
  try have z105:=qav h0
  repeat ((first|refine qaf (takP tk) ?_|refine qai ‹_› ?_|refine qah ‹_› ?_|refine pkT ‹_› ?_|refine qaa ‹_› ?_|refine qao ‹_› ?_|refine qap ‹_› ?_|refine pkF ‹_› ?_|refine qac ‹_› ?_|refine qad hS (by kernel_rfl) ?_);conv => whnf)
  exact ⟨(1,_,_),⟨hll.1,.inr ⟨Nat.le_refl _,x,rfl,rfl,by rw [hd0]⟩⟩,Nat.sub_lt_sub_left h0 Nat.one_pos,Nat.le_refl _,(zhg 2)⟩
 ·have lo :=qal o.1
  conv => whnf
  by_cases hi2:i < L.length
  ·have tk :=qq2 L hi2
   have c0:(Int.ofNat i == 0) = false :=beq_eq_false_iff_ne.2 fun z => by have:(i:Int) = 0 :=z;omega
   have lg :=qal (gP L i).1
   have pE :=qp2 (nl (gP L i).1) (nl o.1) (nl_no _) (nl_no _) (gP L i).2 o.2 (.inr ⟨_,rfl⟩) (.inr ⟨_,rfl⟩)
   rw [qyo L hi2,bsP] at hb
   by_cases he:(gP L i).2 < o.2
   ·rw [decide_eq_true he] at pE
    rw [if_pos he] at hb
    try have z106:=qa3 hi2
    try have z107:=qav hi2
    repeat ((first|refine qaf (takP tk) ?_|refine qai ‹_› ?_|refine qah ‹_› ?_|refine pkT ‹_› ?_|refine qaa ‹_› ?_|refine qao ‹_› ?_|refine qap ‹_› ?_|refine pkF ‹_› ?_|refine qac ‹_› ?_|refine qai (gff ‹_›) ?_|refine qah (gff ‹_›) ?_|refine pkT (gff ‹_›) ?_|refine qaa (gff ‹_›) ?_|refine qab hC (pE) ?_|refine qad hS (by kernel_rfl) ?_);conv => whnf)
    exact ⟨(i + 1,_,_),⟨hi2,.inr ⟨by omega,_,rfl,rfl,hb⟩⟩,by show L.length - (i + 1) < L.length - i;omega,Nat.le_refl _,(zhg 2)⟩
   ·rw [decide_eq_false he] at pE
    rw [if_neg he] at hb
    try have z108:=qa3 hi2
    try have z109:=qav hi2
    repeat ((first|refine qaf (takP tk) ?_|refine qai ‹_› ?_|refine qah ‹_› ?_|refine pkT ‹_› ?_|refine qaa ‹_› ?_|refine qao ‹_› ?_|refine qap ‹_› ?_|refine pkF ‹_› ?_|refine qac ‹_› ?_|refine qai (gff ‹_›) ?_|refine qah (gff ‹_›) ?_|refine pkT (gff ‹_›) ?_|refine qaa (gff ‹_›) ?_|refine qab hC (pE) ?_|refine qad hS (by kernel_rfl) ?_);conv => whnf)
    exact ⟨(i + 1,_,_),⟨hi2,.inr ⟨by omega,o,rfl,rfl,hb⟩⟩,by show L.length - (i + 1) < L.length - i;omega,Nat.le_refl _,(zhg 2)⟩
  ·refine qac (qbn hi2) ?_
   conv => whnf
   refine .inl ?_
   conv => whnf
   rw [List.drop_eq_nil_of_le (by omega),bsP] at hb
   subst hb
   rw [decide_eq_true (show (L.length:Int) > 0 by omega)]
   exact ⟨_,rfl,Wk.refl _⟩
def qdm (W J:List LkI):Option Pln :=match plL W J with
 | [] => none
 |x :: r => some (bsP x r)
theorem qxi {W J:List LkI} (hW:areW W) (hJ:areJ J):(plL W J).length ≤ 729 :=by
 have h1 :=qg9 (J :=J) hW.1.2 J.length []
 have h2:3 ^ J.length ≤ 3 ^ 6 :=Nat.pow_le_pow_right (by decide) hJ.1.2
 unfold plL
 omega
theorem qe2 {W J:List LkI} (hW:areW W) (hJ:areJ J):Pure prog 25 [lkA W,lkA J] (match qdm W J with | none => .tup [.nils,iv 0,iv 5] | some p => .tup [nl p.1,iv p.2,iv 0]) :=by
 have lW :=qau W
 have lJ :=qau J
 have ea:(!decide (areW W)) = false :=nt_t (decide_eq_true hW)
 have eb:(!decide (areJ J)) = false :=nt_t (decide_eq_true hJ)
 have pa :=qtw (.inr rfl:LL (lkA W) W)
 have pb :=qtx (.inr rfl:LL (lkA J) J)
 have pP :=qp1 hW hJ
 have hlen :=qxi hW hJ
 unfold qdm
 obtain ⟨L,hL⟩ : ∃ L,L = plL W J :=⟨_,rfl⟩
 rw [← hL] at pP hlen ⊢
 cases L with
 |nil =>
  have pP:Pure prog 75 [lkA W,lkA J] .nils :=pP
  refine qas hE rfl (by repeat' first|exact trivial|assumption|exact qag _|exact fun _ h => nomatch h|apply And.intro) (by repeat' first|exact trivial|assumption|exact qag _|exact fun _ h => nomatch h|apply And.intro) fun S q pc hS hq hC hE => ?_
  conv => whnf
  repeat ((first|refine qao ‹_› ?_|refine qap ‹_› ?_|refine pkF ‹_› ?_|refine qac ‹_› ?_|refine qai (gff ‹_›) ?_|refine qah (gff ‹_›) ?_|refine pkT (gff ‹_›) ?_|refine qaa (gff ‹_›) ?_|refine qab hC (pa) ?_|refine qab hC (pb) ?_|refine qab hC (pP) ?_|refine qab hC (qtu) ?_|refine qad hS (by kernel_rfl) ?_);conv => whnf)
  exact ⟨_,rfl,Wk.refl _⟩
 |cons x r =>
  have pP:Pure prog 75 [lkA W,lkA J] (.lst (plE (x :: r)) (x :: r).length .no) :=pP
  have pB :=qqk (x :=x) (r :=r) (by rw [List.length_cons] at hlen;omega)
  have lb :=qal (bsP x r).1
  show Pure prog _ _ (.tup [nl (bsP x r).1,iv (bsP x r).2,iv 0])
  refine qas hE rfl (by repeat' first|exact trivial|assumption|exact qag _|exact fun _ h => nomatch h|apply And.intro) (by repeat' first|exact trivial|assumption|exact qag _|exact fun _ h => nomatch h|apply And.intro) fun S q pc hS hq hC hE => ?_
  conv => whnf
  repeat ((first|refine qao ‹_› ?_|refine qap ‹_› ?_|refine pkF ‹_› ?_|refine qac ‹_› ?_|refine qai (gff ‹_›) ?_|refine qah (gff ‹_›) ?_|refine pkT (gff ‹_›) ?_|refine qaa (gff ‹_›) ?_|refine qab hC (pa) ?_|refine qab hC (pb) ?_|refine qab hC (pP) ?_|refine qab hC (pB) ?_|refine qad hS (by kernel_rfl) ?_);conv => whnf)
  exact ⟨_,rfl,Wk.refl _⟩
def WkVs:List AV → List AV → Prop
 | [],[] => True
 |x :: xs,y :: ys => WkV x y ∧ WkVs xs ys
 | _,_ => False
theorem WkVs.refl:∀ xs,WkVs xs xs
 | [] => trivial
 |x :: xs => ⟨WkV.refl x,WkVs.refl xs⟩
theorem WkVs.len:∀ {xs ys:List AV},WkVs xs ys → xs.length = ys.length
 | [],[],_ => rfl
 | _ :: _,_ :: _,h => by rw [List.length_cons,List.length_cons,WkVs.len h.2]
theorem WkVs.cells {g:Gh} {w:World}:∀ {xs ys:List AV} (b off:Nat),WkVs xs ys → LRel g w xs b off → LRel g w ys b off
 | [],[],_,_,_,h => h
 | _ :: _,_ :: _,b,off,k,h => by
  obtain ⟨⟨u,hu,hv⟩,hr⟩ :=h
  exact ⟨⟨u,hu,k.1.wk _ _ _ hv⟩,WkVs.cells b (off + 1) k.2 hr⟩
theorem WkVs.live {L:Nat → Prop}:∀ {xs ys:List AV},WkVs xs ys → Lives L xs → Lives L ys
 | [],[],_,h => h
 | _ :: _,_ :: _,k,h => ⟨k.1.lv _ h.1,WkVs.live k.2 h.2⟩
theorem WkVs.lst {xs ys:List AV} (h:WkVs xs ys) (n:Nat) (own:Own):WkV (.lst xs n own) (.lst ys n own) :=by
 refine ⟨fun g w u hu => ?_,fun L hl => ⟨h.live hl.1,hl.2⟩⟩
 simp only [VRel] at hu ⊢
 obtain ⟨b,off,cap,h1,h2,h3,h4,h5⟩ :=hu
 exact ⟨b,off,cap,h1,h2,by rw [← h.len];exact h3,h.cells b off h4,h5⟩
theorem _root_.Go.Abs.WkV.trans {a b c:AV} (h:WkV a b) (k:WkV b c):WkV a c :=⟨fun _ _ _ hu => k.wk _ _ _ (h.wk _ _ _ hu),fun _ hl => k.lv _ (h.lv _ hl)⟩
def lV (l:List (List Int)):AV :=if l = [] then .nils else sl l
theorem q0e {x:List Int} (h:x ≠ []):sv x = nl x :=by
 cases x with
 |nil => exact absurd rfl h
 |cons _ _ => rfl
def SVv (v:AV) (o:List Int):Prop :=v = .nils ∧ o = [] ∨ v = nl o ∧ o ≠ []
theorem SVv.eq {v:AV} {o:List Int} (h:SVv v o):v = sv o :=by
 rcases h with ⟨rfl,rfl⟩ | ⟨rfl,h⟩
 ·rfl
 ·rw [q0e h]
end
end Go.Abs.Seat
