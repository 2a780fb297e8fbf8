/-
  A text, as the program reads it: it gives up in the first two lines.
-/
import Derived.Test.YtnimgfkggbnjoaaGreatDoorXB135
namespace Go.Abs.Seat
noncomputable section
open Go Go.Abs Go.Proofs.Tryz
set_option maxRecDepth 100000
set_option maxHeartbeats 40000000
attribute [local irreducible] pEq qco IntKind.wrap
theorem qrg {s:List UInt8} (hs:s.length ≤ 400) (h4:(spl 10 s).length < 4):qd1 prog 39 [.str s] (noP s) :=by
 have pS :=qcu s 10 (by omega)
 have lS :=qbs (spl 10 s)
 have hl :=qc7 10 s
 obtain ⟨L,hL⟩ : ∃ L,L = spl 10 s :=⟨_,rfl⟩
 rw [← hL] at pS lS hl h4
 have g4:decide ((L.length:Int) ≥ 4) = false :=decide_eq_false (by omega)
 refine qcn hE rfl (by repeat' first|exact trivial|assumption|exact qa3 _|exact fun _ h => nomatch h|apply And.intro) (by simp [noP,Live,Lives]) fun S q pc hS hq hC hE => ?_
 conv => whnf
 repeat ((first|refine qav hC (pS) ?_|refine qaq hS (by kernel_rfl) ?_);conv => whnf)
 refine qb0 hC ?_
 conv => whnf
 refine qb7 hS (qc5 g4 s) ?_
 conv => whnf
theorem qrf {s:List UInt8} {why:List UInt8} (hs:s.length ≤ 400) (h4:4 ≤ (spl 10 s).length) (pz:qd1 prog 86 [.str (gB (spl 10 s) 0),.str [114,117,108,101]] (noP why)):qd1 prog 39 [.str s] (noP why) :=by
 have pS :=qcu s 10 (by omega)
 have lS :=qbs (spl 10 s)
 have hl :=qc7 10 s
 obtain ⟨L,hL⟩ : ∃ L,L = spl 10 s :=⟨_,rfl⟩
 rw [← hL] at pS lS hl h4 pz
 have ir0:inR 0 L.length = true :=qbf (i :=0) (by omega)
 have n0:nth (stA L) (0:Int).toNat = some (.str (gB L 0)) :=qb2 (l :=L) (i :=0) (by omega)
 have g4:decide ((L.length:Int) ≥ 4) = true :=decide_eq_true (by omega)
 refine qcn hE rfl (by repeat' first|exact trivial|assumption|exact qa3 _|exact fun _ h => nomatch h|apply And.intro) (by simp [noP,Live,Lives]) fun S q pc hS hq hC hE => ?_
 conv => whnf
 repeat ((first|refine qa2 (nthP n0) ?_|refine qa5 ir0 ?_|refine qa4 ir0 ?_|refine pkT ir0 ?_|refine qax ir0 ?_|refine qav hC (pS) ?_|refine qav hC (qbn g4 s) ?_|refine qaq hS (by kernel_rfl) ?_);conv => whnf)
 refine qb0 hC ?_
 conv => whnf
 refine qb7 hS (pz) ?_
 conv => whnf
theorem qre {s:List UInt8} {l0:List (List UInt8)} (hs:s.length ≤ 400) (h4:4 ≤ (spl 10 s).length) (w0:Pure prog 86 [.str (gB (spl 10 s) 0),.str [114,117,108,101]] (.lst (stA l0) l0.length .no)) (hl0:l0.length ≠ 4):qd1 prog 39 [.str s] (noP s) :=by
 have pS :=qcu s 10 (by omega)
 have lS :=qbs (spl 10 s)
 have hl :=qc7 10 s
 obtain ⟨L,hL⟩ : ∃ L,L = spl 10 s :=⟨_,rfl⟩
 rw [← hL] at pS lS hl h4 w0
 have ir0:inR 0 L.length = true :=qbf (i :=0) (by omega)
 have n0:nth (stA L) (0:Int).toNat = some (.str (gB L 0)) :=qb2 (l :=L) (i :=0) (by omega)
 have g4:decide ((L.length:Int) ≥ 4) = true :=decide_eq_true (by omega)
 have h44:((l0.length:Int) == 4) = false :=beq_eq_false_iff_ne.2 (by omega)
 have lX :=qbs l0
 refine qcn hE rfl (by repeat' first|exact trivial|assumption|exact qa3 _|exact fun _ h => nomatch h|apply And.intro) (by simp [noP,Live,Lives]) fun S q pc hS hq hC hE => ?_
 conv => whnf
 repeat ((first|refine qa2 (nthP n0) ?_|refine qa5 ir0 ?_|refine qa4 ir0 ?_|refine pkT ir0 ?_|refine qax ir0 ?_|refine qav hC (pS) ?_|refine qav hC (qbn g4 s) ?_|refine qav hC (w0) ?_|refine qaq hS (by kernel_rfl) ?_);conv => whnf)
 refine qb0 hC ?_
 conv => whnf
 refine qb7 hS (qc5 h44 s) ?_
 conv => whnf
theorem qrd {s:List UInt8} {p1 p2 p3 p4:List UInt8} (hs:s.length ≤ 400) (h4:4 ≤ (spl 10 s).length) (w0:Pure prog 86 [.str (gB (spl 10 s) 0),.str [114,117,108,101]] (.lst (stA [p1,p2,p3,p4]) 4 .no)) (s0:snI p4 = -1):qd1 prog 39 [.str s] (noP s) :=by
 have pS :=qcu s 10 (by omega)
 have lS :=qbs (spl 10 s)
 have hl :=qc7 10 s
 obtain ⟨L,hL⟩ : ∃ L,L = spl 10 s :=⟨_,rfl⟩
 rw [← hL] at pS lS hl h4 w0
 have ir0:inR 0 L.length = true :=qbf (i :=0) (by omega)
 have n0:nth (stA L) (0:Int).toNat = some (.str (gB L 0)) :=qb2 (l :=L) (i :=0) (by omega)
 have g4:decide ((L.length:Int) ≥ 4) = true :=decide_eq_true (by omega)
 have h44:(((4:Nat):Int) == 4) = true :=rfl
 have lX :=qbs [p1,p2,p3,p4]
 have pX :=qgu (W0 :=.cells (.node (iv 0) (.node (iv 0) (.node (iv 0) .nil .nil) .nil) (.node (iv 0) (.node .nils .nil .nil) .nil)) 5 25) (by repeat' (first|exact trivial|exact Nat.zero_le _|apply And.intro)) p4
 rw [s0] at pX
 have gS:decide ((-1:Int) ≥ 0) = false :=rfl
 refine qcn hE rfl (by repeat' first|exact trivial|assumption|exact qa3 _|exact fun _ h => nomatch h|apply And.intro) (by simp [noP,Live,Lives]) fun S q pc hS hq hC hE => ?_
 conv => whnf
 repeat ((first|refine qa2 (nthP n0) ?_|refine qa5 ir0 ?_|refine qa4 ir0 ?_|refine pkT ir0 ?_|refine qax ir0 ?_|refine qav hC (pS) ?_|refine qav hC (qbn g4 s) ?_|refine qav hC (w0) ?_|refine qav hC (qbn h44 s) ?_|refine qav hC (qcr) ?_|refine qaq hS (by kernel_rfl) ?_);conv => whnf)
 refine qa2 (p' :=.ret (.slc 1 0 3 3)) (by kernel_rfl) ?_
 conv => whnf
 repeat ((first|refine qaq hS (by kernel_rfl) ?_);conv => whnf)
 refine qc0 hC (HFun.pureR pX (ob2S ⟨rfl,rfl,trivial⟩)) ?_
 conv => whnf
 repeat ((first|refine qaq hS (by kernel_rfl) ?_);conv => whnf)
 refine qb0 hC ?_
 conv => whnf
 refine qb7 hS (qc5 gS s) ?_
 conv => whnf
theorem qrc {s:List UInt8} {p1 p2 p3 p4:List UInt8} {d:Nat} {why:List UInt8} (hs:s.length ≤ 400) (h4:4 ≤ (spl 10 s).length) (w0:Pure prog 86 [.str (gB (spl 10 s) 0),.str [114,117,108,101]] (.lst (stA [p1,p2,p3,p4]) 4 .no)) (s0:snI p4 = Int.ofNat d) (_d3:d < 3) (pz:qd1 prog 89 [.lst (stA [p1,p2,p3]) 3 .no] (noP why)):qd1 prog 39 [.str s] (noP why) :=by
 have pS :=qcu s 10 (by omega)
 have lS :=qbs (spl 10 s)
 have hl :=qc7 10 s
 obtain ⟨L,hL⟩ : ∃ L,L = spl 10 s :=⟨_,rfl⟩
 rw [← hL] at pS lS hl h4 w0
 have ir0:inR 0 L.length = true :=qbf (i :=0) (by omega)
 have n0:nth (stA L) (0:Int).toNat = some (.str (gB L 0)) :=qb2 (l :=L) (i :=0) (by omega)
 have g4:decide ((L.length:Int) ≥ 4) = true :=decide_eq_true (by omega)
 have h44:(((4:Nat):Int) == 4) = true :=rfl
 have lX :=qbs [p1,p2,p3,p4]
 have pX :=qgu (W0 :=.cells (.node (iv 0) (.node (iv 0) (.node (iv 0) .nil .nil) .nil) (.node (iv 0) (.node .nils .nil .nil) .nil)) 5 25) (by repeat' (first|exact trivial|exact Nat.zero_le _|apply And.intro)) p4
 rw [s0] at pX
 have gS:decide (Int.ofNat d ≥ 0) = true :=decide_eq_true (Int.natCast_nonneg _)
 refine qcn hE rfl (by repeat' first|exact trivial|assumption|exact qa3 _|exact fun _ h => nomatch h|apply And.intro) (by simp [noP,Live,Lives]) fun S q pc hS hq hC hE => ?_
 conv => whnf
 repeat ((first|refine qa2 (nthP n0) ?_|refine qa5 ir0 ?_|refine qa4 ir0 ?_|refine pkT ir0 ?_|refine qax ir0 ?_|refine qav hC (pS) ?_|refine qav hC (qbn g4 s) ?_|refine qav hC (w0) ?_|refine qav hC (qbn h44 s) ?_|refine qav hC (qcr) ?_|refine qaq hS (by kernel_rfl) ?_);conv => whnf)
 refine qa2 (p' :=.ret (.slc 1 0 3 3)) (by kernel_rfl) ?_
 conv => whnf
 repeat ((first|refine qaq hS (by kernel_rfl) ?_);conv => whnf)
 refine qc0 hC (HFun.pureR pX (ob2S ⟨rfl,rfl,trivial⟩)) ?_
 conv => whnf
 repeat ((first|refine qav hC (qbn gS s) ?_|refine qaq hS (by kernel_rfl) ?_);conv => whnf)
 refine qa2 (p' :=.chk true (.ret (.lst (stA [p1,p2,p3]) 3 .no))) (by kernel_rfl) ?_
 conv => whnf
 repeat ((first|refine qaq hS (by kernel_rfl) ?_);conv => whnf)
 refine qb0 hC ?_
 conv => whnf
 refine qb7 hS (pz) ?_
 conv => whnf
theorem qrb {s:List UInt8} {p1 p2 p3 p4:List UInt8} {d:Nat} {a b c:Nat} {why:List UInt8} (hs:s.length ≤ 400) (h4:4 ≤ (spl 10 s).length) (w0:Pure prog 86 [.str (gB (spl 10 s) 0),.str [114,117,108,101]] (.lst (stA [p1,p2,p3,p4]) 4 .no)) (s0:snI p4 = Int.ofNat d) (d3:d < 3) (t0:Pure prog 89 [.lst (stA [p1,p2,p3]) 3 .no] (nl (zl [a,b,c]))) (pz:qd1 prog 86 [.str (gB (spl 10 s) 1),.str [110,101,118,101,114]] (noP why)):qd1 prog 39 [.str s] (noP why) :=by
 have pS :=qcu s 10 (by omega)
 have lS :=qbs (spl 10 s)
 have hl :=qc7 10 s
 obtain ⟨L,hL⟩ : ∃ L,L = spl 10 s :=⟨_,rfl⟩
 rw [← hL] at pS lS hl h4 w0 pz
 have ir0:inR 0 L.length = true :=qbf (i :=0) (by omega)
 have n0:nth (stA L) (0:Int).toNat = some (.str (gB L 0)) :=qb2 (l :=L) (i :=0) (by omega)
 have g4:decide ((L.length:Int) ≥ 4) = true :=decide_eq_true (by omega)
 have h44:(((4:Nat):Int) == 4) = true :=rfl
 have lX :=qbs [p1,p2,p3,p4]
 have pX :=qgu (W0 :=.cells (.node (iv 0) (.node (iv 0) (.node (iv 0) .nil .nil) .nil) (.node (iv 0) (.node .nils .nil .nil) .nil)) 5 25) (by repeat' (first|exact trivial|exact Nat.zero_le _|apply And.intro)) p4
 rw [s0] at pX
 have gS:decide (Int.ofNat d ≥ 0) = true :=decide_eq_true (Int.natCast_nonneg _)
 have ir1:inR 1 L.length = true :=qbf (i :=1) (by omega)
 have n1:nth (stA L) (1:Int).toNat = some (.str (gB L 1)) :=qb2 (l :=L) (i :=1) (by omega)
 have w5:IntKind.i64.wrap (1 + Int.ofNat d) = Int.ofNat (d + 1) :=by rw [Int.add_comm];exact qbr (m :=d + 1) (by omega)
 refine qcn hE rfl (by repeat' first|exact trivial|assumption|exact qa3 _|exact fun _ h => nomatch h|apply And.intro) (by simp [noP,Live,Lives]) fun S q pc hS hq hC hE => ?_
 conv => whnf
 repeat ((first|refine qa2 (nthP n0) ?_|refine qa5 ir0 ?_|refine qa4 ir0 ?_|refine pkT ir0 ?_|refine qax ir0 ?_|refine qav hC (pS) ?_|refine qav hC (qbn g4 s) ?_|refine qav hC (w0) ?_|refine qav hC (qbn h44 s) ?_|refine qav hC (qcr) ?_|refine qaq hS (by kernel_rfl) ?_);conv => whnf)
 refine qa2 (p' :=.ret (.slc 1 0 3 3)) (by kernel_rfl) ?_
 conv => whnf
 repeat ((first|refine qaq hS (by kernel_rfl) ?_);conv => whnf)
 refine qc0 hC (HFun.pureR pX (ob2S ⟨rfl,rfl,trivial⟩)) ?_
 conv => whnf
 repeat ((first|refine qav hC (qbn gS s) ?_|refine qaq hS (by kernel_rfl) ?_);conv => whnf)
 refine qa2 (p' :=.chk true (.ret (.lst (stA [p1,p2,p3]) 3 .no))) (by kernel_rfl) ?_
 conv => whnf
 repeat ((first|refine qa2 (nthP n1) ?_|refine qa5 ir1 ?_|refine qa4 ir1 ?_|refine pkT ir1 ?_|refine qax ir1 ?_|refine qav hC (t0) ?_|refine qaq hS (by kernel_rfl) ?_);conv => whnf)
 refine qb0 hC ?_
 conv => whnf
 refine qb7 hS (pz) ?_
 conv => whnf
theorem qra {s:List UInt8} {p1 p2 p3 p4:List UInt8} {d:Nat} {a b c:Nat} {l1:List (List UInt8)} {why:List UInt8} (hs:s.length ≤ 400) (h4:4 ≤ (spl 10 s).length) (w0:Pure prog 86 [.str (gB (spl 10 s) 0),.str [114,117,108,101]] (.lst (stA [p1,p2,p3,p4]) 4 .no)) (s0:snI p4 = Int.ofNat d) (d3:d < 3) (t0:Pure prog 89 [.lst (stA [p1,p2,p3]) 3 .no] (nl (zl [a,b,c]))) (w1:Pure prog 86 [.str (gB (spl 10 s) 1),.str [110,101,118,101,114]] (.lst (stA l1) l1.length .no)) (pz:qd1 prog 89 [.lst (stA l1) l1.length .no] (noP why)):qd1 prog 39 [.str s] (noP why) :=by
 have pS :=qcu s 10 (by omega)
 have lS :=qbs (spl 10 s)
 have hl :=qc7 10 s
 obtain ⟨L,hL⟩ : ∃ L,L = spl 10 s :=⟨_,rfl⟩
 rw [← hL] at pS lS hl h4 w0 w1
 have ir0:inR 0 L.length = true :=qbf (i :=0) (by omega)
 have n0:nth (stA L) (0:Int).toNat = some (.str (gB L 0)) :=qb2 (l :=L) (i :=0) (by omega)
 have g4:decide ((L.length:Int) ≥ 4) = true :=decide_eq_true (by omega)
 have h44:(((4:Nat):Int) == 4) = true :=rfl
 have lX :=qbs [p1,p2,p3,p4]
 have pX :=qgu (W0 :=.cells (.node (iv 0) (.node (iv 0) (.node (iv 0) .nil .nil) .nil) (.node (iv 0) (.node .nils .nil .nil) .nil)) 5 25) (by repeat' (first|exact trivial|exact Nat.zero_le _|apply And.intro)) p4
 rw [s0] at pX
 have gS:decide (Int.ofNat d ≥ 0) = true :=decide_eq_true (Int.natCast_nonneg _)
 have ir1:inR 1 L.length = true :=qbf (i :=1) (by omega)
 have n1:nth (stA L) (1:Int).toNat = some (.str (gB L 1)) :=qb2 (l :=L) (i :=1) (by omega)
 have w5:IntKind.i64.wrap (1 + Int.ofNat d) = Int.ofNat (d + 1) :=by rw [Int.add_comm];exact qbr (m :=d + 1) (by omega)
 have lL1 :=qbs l1
 refine qcn hE rfl (by repeat' first|exact trivial|assumption|exact qa3 _|exact fun _ h => nomatch h|apply And.intro) (by simp [noP,Live,Lives]) fun S q pc hS hq hC hE => ?_
 conv => whnf
 repeat ((first|refine qa2 (nthP n0) ?_|refine qa5 ir0 ?_|refine qa4 ir0 ?_|refine pkT ir0 ?_|refine qax ir0 ?_|refine qav hC (pS) ?_|refine qav hC (qbn g4 s) ?_|refine qav hC (w0) ?_|refine qav hC (qbn h44 s) ?_|refine qav hC (qcr) ?_|refine qaq hS (by kernel_rfl) ?_);conv => whnf)
 refine qa2 (p' :=.ret (.slc 1 0 3 3)) (by kernel_rfl) ?_
 conv => whnf
 repeat ((first|refine qaq hS (by kernel_rfl) ?_);conv => whnf)
 refine qc0 hC (HFun.pureR pX (ob2S ⟨rfl,rfl,trivial⟩)) ?_
 conv => whnf
 repeat ((first|refine qav hC (qbn gS s) ?_|refine qaq hS (by kernel_rfl) ?_);conv => whnf)
 refine qa2 (p' :=.chk true (.ret (.lst (stA [p1,p2,p3]) 3 .no))) (by kernel_rfl) ?_
 conv => whnf
 repeat ((first|refine qa2 (nthP n1) ?_|refine qa5 ir1 ?_|refine qa4 ir1 ?_|refine pkT ir1 ?_|refine qax ir1 ?_|refine qav hC (t0) ?_|refine qav hC (w1) ?_|refine qaq hS (by kernel_rfl) ?_);conv => whnf)
 refine qb0 hC ?_
 conv => whnf
 refine qb7 hS (pz) ?_
 conv => whnf
end
end Go.Abs.Seat
