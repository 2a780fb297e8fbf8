/-
  A text, as the document reads it: none in its first two lines.
-/
import Derived.Test.YtnimgfkggbnjoaaGreatDoorXB1470
namespace Go.Abs.Seat
noncomputable section
open Go Go.Abs Go.Proofs.Tryz
set_option maxRecDepth 100000
set_option maxHeartbeats 40000000
attribute [local irreducible] pEq qco IntKind.wrap
theorem qxb {s:List UInt8} {hd:List (List UInt8)} (hs:s.length ≤ 500) (s0:Pure prog 42 [.str (gB (spl 10 s) 0),.int .u8 32] (.lst (stA hd) hd.length .no)) (h4:(spl 10 s).length < 4):Pure prog 16 [.str s] zrX :=by
 have pS :=qda s 10 (by omega)
 have lS :=qbs (spl 10 s)
 have hl :=qc7 10 s
 have hlp :=List.length_pos_iff.2 (qgf 10 s)
 obtain ⟨L,hL⟩ : ∃ L,L = spl 10 s :=⟨_,rfl⟩
 rw [← hL] at pS lS hl hlp h4 s0
 have ir0:inR 0 L.length = true :=qbf (i :=0) (by omega)
 have n0:nth (stA L) (0:Int).toNat = some (.str (gB L 0)) :=qb2 (l :=L) (i :=0) (by omega)
 have lH :=qbs hd
 have g4:decide ((L.length:Int) < 4) = true :=decide_eq_true (by omega)
 refine qbg hE rfl (by repeat' first|exact trivial|assumption|exact qa3 _|exact fun _ h => nomatch h|apply And.intro) (by repeat' first|exact trivial|assumption|exact qa3 _|exact fun _ h => nomatch h|apply And.intro) fun S q pc hS hq hC hE => ?_
 conv => whnf
 repeat ((first|refine qa2 (nthP n0) ?_|refine qa5 ‹_› ?_|refine qa4 ‹_› ?_|refine pkT ‹_› ?_|refine qax ‹_› ?_|refine qa9 (gft ‹_›) ?_|refine qbc (gft ‹_›) ?_|refine pkF (gft ‹_›) ?_|refine qar (gft ‹_›) ?_|refine qav hC (pS) ?_|refine qav hC (s0) ?_|refine qaq hS (by kernel_rfl) ?_);conv => whnf)
 exact ⟨_,rfl,Wk.refl _⟩
theorem qxa {s:List UInt8} {hd:List (List UInt8)} (hs:s.length ≤ 500) (s0:Pure prog 42 [.str (gB (spl 10 s) 0),.int .u8 32] (.lst (stA hd) hd.length .no)) (h4:4 ≤ (spl 10 s).length) (h5:hd.length ≠ 5):Pure prog 16 [.str s] zrX :=by
 have pS :=qda s 10 (by omega)
 have lS :=qbs (spl 10 s)
 have hl :=qc7 10 s
 have hlp :=List.length_pos_iff.2 (qgf 10 s)
 obtain ⟨L,hL⟩ : ∃ L,L = spl 10 s :=⟨_,rfl⟩
 rw [← hL] at pS lS hl hlp h4 s0
 have ir0:inR 0 L.length = true :=qbf (i :=0) (by omega)
 have n0:nth (stA L) (0:Int).toNat = some (.str (gB L 0)) :=qb2 (l :=L) (i :=0) (by omega)
 have g4:decide ((L.length:Int) < 4) = false :=decide_eq_false (by omega)
 have lH :=qbs hd
 have g5:((hd.length:Int) != 5) = true :=bne_iff_ne.2 (by omega)
 refine qbg hE rfl (by repeat' first|exact trivial|assumption|exact qa3 _|exact fun _ h => nomatch h|apply And.intro) (by repeat' first|exact trivial|assumption|exact qa3 _|exact fun _ h => nomatch h|apply And.intro) fun S q pc hS hq hC hE => ?_
 conv => whnf
 repeat ((first|refine qa2 (nthP n0) ?_|refine qa5 ‹_› ?_|refine qa4 ‹_› ?_|refine pkT ‹_› ?_|refine qax ‹_› ?_|refine qa9 ‹_› ?_|refine qbc ‹_› ?_|refine pkF ‹_› ?_|refine qar ‹_› ?_|refine qa5 (gff ‹_›) ?_|refine qa4 (gff ‹_›) ?_|refine pkT (gff ‹_›) ?_|refine qax (gff ‹_›) ?_|refine qav hC (pS) ?_|refine qav hC (s0) ?_|refine qaq hS (by kernel_rfl) ?_);conv => whnf)
 exact ⟨_,rfl,Wk.refl _⟩
theorem qw9 {s:List UInt8} {p0 p1 p2 p3 p4:List UInt8} (hs:s.length ≤ 500) (s0:Pure prog 42 [.str (gB (spl 10 s) 0),.int .u8 32] (.lst (stA [p0,p1,p2,p3,p4]) 5 .no)) (h4:4 ≤ (spl 10 s).length) (m0:Pure prog 43 [.lst (stA [p1,p2,p3]) 3 .no] (.tup [.nils,.bool false])):Pure prog 16 [.str s] zrX :=by
 have pS :=qda s 10 (by omega)
 have lS :=qbs (spl 10 s)
 have hl :=qc7 10 s
 have hlp :=List.length_pos_iff.2 (qgf 10 s)
 obtain ⟨L,hL⟩ : ∃ L,L = spl 10 s :=⟨_,rfl⟩
 rw [← hL] at pS lS hl hlp h4 s0
 have ir0:inR 0 L.length = true :=qbf (i :=0) (by omega)
 have n0:nth (stA L) (0:Int).toNat = some (.str (gB L 0)) :=qb2 (l :=L) (i :=0) (by omega)
 have g4:decide ((L.length:Int) < 4) = false :=decide_eq_false (by omega)
 have lX :=qbs [p0,p1,p2,p3,p4]
 refine qbg hE rfl (by repeat' first|exact trivial|assumption|exact qa3 _|exact fun _ h => nomatch h|apply And.intro) (by repeat' first|exact trivial|assumption|exact qa3 _|exact fun _ h => nomatch h|apply And.intro) fun S q pc hS hq hC hE => ?_
 conv => whnf
 repeat ((first|refine qa2 (nthP n0) ?_|refine qa5 ‹_› ?_|refine qa4 ‹_› ?_|refine pkT ‹_› ?_|refine qax ‹_› ?_|refine qa9 ‹_› ?_|refine qbc ‹_› ?_|refine pkF ‹_› ?_|refine qar ‹_› ?_|refine qa5 (gff ‹_›) ?_|refine qa4 (gff ‹_›) ?_|refine pkT (gff ‹_›) ?_|refine qax (gff ‹_›) ?_|refine qav hC (pS) ?_|refine qav hC (s0) ?_|refine qaq hS (by kernel_rfl) ?_);conv => whnf)
 refine qa2 (p' :=.chk true (.ret (.lst (stA [p1,p2,p3]) 3 .no))) (by kernel_rfl) ?_
 conv => whnf
 repeat ((first|refine qav hC (m0) ?_|refine qaq hS (by kernel_rfl) ?_);conv => whnf)
 exact ⟨_,rfl,Wk.refl _⟩
theorem qw8 {s:List UInt8} {p0 p1 p2 p3 p4:List UInt8} {a b c:Nat} {q0:List UInt8} {l1:List (List UInt8)} (hs:s.length ≤ 500) (s0:Pure prog 42 [.str (gB (spl 10 s) 0),.int .u8 32] (.lst (stA [p0,p1,p2,p3,p4]) 5 .no)) (h4:4 ≤ (spl 10 s).length) (m0:Pure prog 43 [.lst (stA [p1,p2,p3]) 3 .no] (.tup [nl (zl [a,b,c]),.bool true])) (s1:Pure prog 42 [.str (gB (spl 10 s) 1),.int .u8 32] (.lst (stA (q0 :: l1)) (q0 :: l1).length .no)) (m1:Pure prog 43 [.lst (stA l1) l1.length .no] (.tup [.nils,.bool false])):Pure prog 16 [.str s] zrX :=by
 have pS :=qda s 10 (by omega)
 have lS :=qbs (spl 10 s)
 have hl :=qc7 10 s
 have hlp :=List.length_pos_iff.2 (qgf 10 s)
 obtain ⟨L,hL⟩ : ∃ L,L = spl 10 s :=⟨_,rfl⟩
 rw [← hL] at pS lS hl hlp h4 s0 s1
 have ir0:inR 0 L.length = true :=qbf (i :=0) (by omega)
 have n0:nth (stA L) (0:Int).toNat = some (.str (gB L 0)) :=qb2 (l :=L) (i :=0) (by omega)
 have g4:decide ((L.length:Int) < 4) = false :=decide_eq_false (by omega)
 have lX :=qbs [p0,p1,p2,p3,p4]
 have lL1 :=qbs (q0 :: l1)
 have ir1:inR 1 L.length = true :=qbf (i :=1) (by omega)
 have n1:nth (stA L) (1:Int).toNat = some (.str (gB L 1)) :=qb2 (l :=L) (i :=1) (by omega)
 refine qbg hE rfl (by repeat' first|exact trivial|assumption|exact qa3 _|exact fun _ h => nomatch h|apply And.intro) (by repeat' first|exact trivial|assumption|exact qa3 _|exact fun _ h => nomatch h|apply And.intro) fun S q pc hS hq hC hE => ?_
 conv => whnf
 repeat ((first|refine qa2 (nthP n0) ?_|refine qa5 ‹_› ?_|refine qa4 ‹_› ?_|refine pkT ‹_› ?_|refine qax ‹_› ?_|refine qa9 ‹_› ?_|refine qbc ‹_› ?_|refine pkF ‹_› ?_|refine qar ‹_› ?_|refine qa5 (gff ‹_›) ?_|refine qa4 (gff ‹_›) ?_|refine pkT (gff ‹_›) ?_|refine qax (gff ‹_›) ?_|refine qav hC (pS) ?_|refine qav hC (s0) ?_|refine qaq hS (by kernel_rfl) ?_);conv => whnf)
 refine qa2 (p' :=.chk true (.ret (.lst (stA [p1,p2,p3]) 3 .no))) (by kernel_rfl) ?_
 conv => whnf
 repeat ((first|refine qav hC (m0) ?_|refine qaq hS (by kernel_rfl) ?_);conv => whnf)
 refine qbh hE hS (A :=Nat) [0,2,5,6,7,8] (fun i => [(11,nv i)]) (fun i => [(1,.cells (.node (nv a) (.node (nv b) (.node (nv (sV p4 i)) .nil .nil) .nil) (.node (nv c) (.node (.nils) .nil .nil) .nil)) 5 25)]) (fun _ => []) (fun i => 1 ≤ i ∧ i ≤ 4) (fun i => 4 - i) 1 (kle rfl) rfl (zhg 17) ⟨Nat.le_refl _,by decide⟩ ?_
 intro i ⟨hi,hi4⟩ K hK
 obtain rfl:K = 17 :=hK
 conv => whnf
 by_cases hi2:i < 4
 ·have hi1:IntKind.i64.wrap (Int.ofNat i + 1) = Int.ofNat (i + 1) :=qbr (m :=i + 1) (by omega)
  have gs :=qgt hi2
  by_cases hq:sQ i = p4
  ·have c1:(sQ i == p4) = true :=beq_iff_eq.2 hq
   have eS:AObj.cells (.node (nv a) (.node (nv b) (.node (nv i) .nil .nil) .nil) (.node (nv c) (.node (.nils) .nil .nil) .nil)) 5 25 = .cells (.node (nv a) (.node (nv b) (.node (nv (sV p4 (i + 1))) .nil .nil) .nil) (.node (nv c) (.node (.nils) .nil .nil) .nil)) 5 25 :=by rw [sV,if_pos ⟨hi,hq⟩]
   try have z570:=qbk hi2
   try have z571:=qbf hi2
   repeat ((first|refine qa2 (nthP gs) ?_|refine qa5 ‹_› ?_|refine qa4 ‹_› ?_|refine pkT ‹_› ?_|refine qax ‹_› ?_|refine qa9 ‹_› ?_|refine qbc ‹_› ?_|refine pkF ‹_› ?_|refine qar ‹_› ?_|refine qav hC (qbz) ?_|refine qaq hS (by kernel_rfl) ?_);conv => whnf)
   exact ⟨i + 1,⟨by omega,hi2⟩,by omega,kle rfl,(zhg 17)⟩
  ·have c1:(sQ i == p4) = false :=beq_eq_false_iff_ne.2 hq
   have eS:AObj.cells (.node (nv a) (.node (nv b) (.node (nv (sV p4 i)) .nil .nil) .nil) (.node (nv c) (.node (.nils) .nil .nil) .nil)) 5 25 = .cells (.node (nv a) (.node (nv b) (.node (nv (sV p4 (i + 1))) .nil .nil) .nil) (.node (nv c) (.node (.nils) .nil .nil) .nil)) 5 25 :=by rw [sV,if_neg fun z => hq z.2]
   try have z572:=qbk hi2
   try have z573:=qbf hi2
   repeat ((first|refine qa2 (nthP gs) ?_|refine qa5 ‹_› ?_|refine qa4 ‹_› ?_|refine pkT ‹_› ?_|refine qax ‹_› ?_|refine qa9 ‹_› ?_|refine qbc ‹_› ?_|refine pkF ‹_› ?_|refine qar ‹_› ?_|refine qav hC (qbz) ?_|refine qaq hS (by kernel_rfl) ?_);conv => whnf)
   exact ⟨i + 1,⟨by omega,hi2⟩,by omega,kle rfl,(zhg 17)⟩
 obtain rfl:i = 4 :=by omega
 repeat ((first|refine qav hC (qbz) ?_|refine qaq hS (by kernel_rfl) ?_);conv => whnf)
 refine .inl ?_
 conv => whnf
 repeat ((first|refine qa2 (nthP n1) ?_|refine qa2 (qch (L :=q0 :: l1) (a :=1) (e :=9) (inf :=t9) (by kernel_rfl) (by kernel_rfl) (by kernel_rfl) rfl (Nat.succ_pos _)) ?_|refine qa5 ir1 ?_|refine qa4 ir1 ?_|refine pkT ir1 ?_|refine qax ir1 ?_|refine qav hC (s1) ?_|refine qav hC (m1) ?_|refine qaq hS (by kernel_rfl) ?_);conv => whnf)
 exact ⟨_,rfl,Wk.refl _⟩
end
end Go.Abs.Seat
