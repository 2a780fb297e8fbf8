/-
  A text, as the program reads it: it gives up in the first two lines.
-/
import Derived.Test.YtnimgfkggbnjoaaGreatDoorVB135
namespace Go.Abs.Seat
noncomputable section
open Go Go.Abs Go.Proofs.Tryz
set_option maxRecDepth 100000
set_option maxHeartbeats 40000000
attribute [local irreducible] pEq qbt IntKind.wrap
theorem qqw {s:List UInt8} (hs:s.length ≤ 400) (h4:(spl 10 s).length < 4):qc4 prog 39 [.str s] (noP s) :=by
 have pS :=qbw s 10 (by omega)
 have lS :=qax (spl 10 s)
 have hl :=qb7 10 s
 obtain ⟨L,hL⟩ : ∃ L,L = spl 10 s :=⟨_,rfl⟩
 rw [← hL] at pS lS hl h4
 have g4:decide ((L.length:Int) ≥ 4) = false :=decide_eq_false (by omega)
 refine qbs hE rfl (by repeat' first|exact trivial|assumption|exact qal _|exact fun _ h => nomatch h|apply And.intro) (by simp [noP,Live,Lives]) fun S q pc hS hq hC hE => ?_
 conv => whnf
 repeat ((first|refine qad hC (pS) ?_|refine qac hS (by kernel_rfl) ?_);conv => whnf)
 refine qa7 hC ?_
 conv => whnf
 refine qba hS (qb8 g4 s) ?_
 conv => whnf
theorem qqv {s:List UInt8} {why:List UInt8} (hs:s.length ≤ 400) (h4:4 ≤ (spl 10 s).length) (pz:qc4 prog 86 [.str (gB (spl 10 s) 0),.str [114,117,108,101]] (noP why)):qc4 prog 39 [.str s] (noP why) :=by
 have pS :=qbw s 10 (by omega)
 have lS :=qax (spl 10 s)
 have hl :=qb7 10 s
 obtain ⟨L,hL⟩ : ∃ L,L = spl 10 s :=⟨_,rfl⟩
 rw [← hL] at pS lS hl h4 pz
 have ir0:inR 0 L.length = true :=qai (i :=0) (by omega)
 have n0:nth (stA L) (0:Int).toNat = some (.str (gB L 0)) :=qa4 (l :=L) (i :=0) (by omega)
 have g4:decide ((L.length:Int) ≥ 4) = true :=decide_eq_true (by omega)
 refine qbs hE rfl (by repeat' first|exact trivial|assumption|exact qal _|exact fun _ h => nomatch h|apply And.intro) (by simp [noP,Live,Lives]) fun S q pc hS hq hC hE => ?_
 conv => whnf
 repeat ((first|refine qaf (nthP n0) ?_|refine qah ir0 ?_|refine qag ir0 ?_|refine pkT ir0 ?_|refine qaa ir0 ?_|refine qad hC (pS) ?_|refine qad hC (qat g4 s) ?_|refine qac hS (by kernel_rfl) ?_);conv => whnf)
 refine qa7 hC ?_
 conv => whnf
 refine qba hS (pz) ?_
 conv => whnf
theorem qqu {s:List UInt8} {l0:List (List UInt8)} (hs:s.length ≤ 400) (h4:4 ≤ (spl 10 s).length) (w0:Pure prog 86 [.str (gB (spl 10 s) 0),.str [114,117,108,101]] (.lst (stA l0) l0.length .no)) (hl0:l0.length ≠ 4):qc4 prog 39 [.str s] (noP s) :=by
 have pS :=qbw s 10 (by omega)
 have lS :=qax (spl 10 s)
 have hl :=qb7 10 s
 obtain ⟨L,hL⟩ : ∃ L,L = spl 10 s :=⟨_,rfl⟩
 rw [← hL] at pS lS hl h4 w0
 have ir0:inR 0 L.length = true :=qai (i :=0) (by omega)
 have n0:nth (stA L) (0:Int).toNat = some (.str (gB L 0)) :=qa4 (l :=L) (i :=0) (by omega)
 have g4:decide ((L.length:Int) ≥ 4) = true :=decide_eq_true (by omega)
 have h44:((l0.length:Int) == 4) = false :=beq_eq_false_iff_ne.2 (by omega)
 have lX :=qax l0
 refine qbs hE rfl (by repeat' first|exact trivial|assumption|exact qal _|exact fun _ h => nomatch h|apply And.intro) (by simp [noP,Live,Lives]) fun S q pc hS hq hC hE => ?_
 conv => whnf
 repeat ((first|refine qaf (nthP n0) ?_|refine qah ir0 ?_|refine qag ir0 ?_|refine pkT ir0 ?_|refine qaa ir0 ?_|refine qad hC (pS) ?_|refine qad hC (qat g4 s) ?_|refine qad hC (w0) ?_|refine qac hS (by kernel_rfl) ?_);conv => whnf)
 refine qa7 hC ?_
 conv => whnf
 refine qba hS (qb8 h44 s) ?_
 conv => whnf
theorem qqt {s:List UInt8} {p1 p2 p3 p4:List UInt8} (hs:s.length ≤ 400) (h4:4 ≤ (spl 10 s).length) (w0:Pure prog 86 [.str (gB (spl 10 s) 0),.str [114,117,108,101]] (.lst (stA [p1,p2,p3,p4]) 4 .no)) (s0:snI p4 = -1):qc4 prog 39 [.str s] (noP s) :=by
 have pS :=qbw s 10 (by omega)
 have lS :=qax (spl 10 s)
 have hl :=qb7 10 s
 obtain ⟨L,hL⟩ : ∃ L,L = spl 10 s :=⟨_,rfl⟩
 rw [← hL] at pS lS hl h4 w0
 have ir0:inR 0 L.length = true :=qai (i :=0) (by omega)
 have n0:nth (stA L) (0:Int).toNat = some (.str (gB L 0)) :=qa4 (l :=L) (i :=0) (by omega)
 have g4:decide ((L.length:Int) ≥ 4) = true :=decide_eq_true (by omega)
 have h44:(((4:Nat):Int) == 4) = true :=rfl
 have lX :=qax [p1,p2,p3,p4]
 have pX :=qfy (W0 :=.cells (.node (iv 0) (.node (iv 0) (.node (iv 0) .nil .nil) .nil) (.node (iv 0) (.node .nils .nil .nil) .nil)) 5 25) (by repeat' (first|exact trivial|exact Nat.zero_le _|apply And.intro)) p4
 rw [s0] at pX
 have gS:decide ((-1:Int) ≥ 0) = false :=rfl
 refine qbs hE rfl (by repeat' first|exact trivial|assumption|exact qal _|exact fun _ h => nomatch h|apply And.intro) (by simp [noP,Live,Lives]) fun S q pc hS hq hC hE => ?_
 conv => whnf
 repeat ((first|refine qaf (nthP n0) ?_|refine qah ir0 ?_|refine qag ir0 ?_|refine pkT ir0 ?_|refine qaa ir0 ?_|refine qad hC (pS) ?_|refine qad hC (qat g4 s) ?_|refine qad hC (w0) ?_|refine qad hC (qat h44 s) ?_|refine qad hC (qbu) ?_|refine qac hS (by kernel_rfl) ?_);conv => whnf)
 refine qaf (p' :=.ret (.slc 1 0 3 3)) (by kernel_rfl) ?_
 conv => whnf
 repeat ((first|refine qac hS (by kernel_rfl) ?_);conv => whnf)
 refine qb2 hC (HFun.pureR pX (ob2S ⟨rfl,rfl,trivial⟩)) ?_
 conv => whnf
 repeat ((first|refine qac hS (by kernel_rfl) ?_);conv => whnf)
 refine qa7 hC ?_
 conv => whnf
 refine qba hS (qb8 gS s) ?_
 conv => whnf
theorem qqs {s:List UInt8} {p1 p2 p3 p4:List UInt8} {d:Nat} {why:List UInt8} (hs:s.length ≤ 400) (h4:4 ≤ (spl 10 s).length) (w0:Pure prog 86 [.str (gB (spl 10 s) 0),.str [114,117,108,101]] (.lst (stA [p1,p2,p3,p4]) 4 .no)) (s0:snI p4 = Int.ofNat d) (_d3:d < 3) (pz:qc4 prog 89 [.lst (stA [p1,p2,p3]) 3 .no] (noP why)):qc4 prog 39 [.str s] (noP why) :=by
 have pS :=qbw s 10 (by omega)
 have lS :=qax (spl 10 s)
 have hl :=qb7 10 s
 obtain ⟨L,hL⟩ : ∃ L,L = spl 10 s :=⟨_,rfl⟩
 rw [← hL] at pS lS hl h4 w0
 have ir0:inR 0 L.length = true :=qai (i :=0) (by omega)
 have n0:nth (stA L) (0:Int).toNat = some (.str (gB L 0)) :=qa4 (l :=L) (i :=0) (by omega)
 have g4:decide ((L.length:Int) ≥ 4) = true :=decide_eq_true (by omega)
 have h44:(((4:Nat):Int) == 4) = true :=rfl
 have lX :=qax [p1,p2,p3,p4]
 have pX :=qfy (W0 :=.cells (.node (iv 0) (.node (iv 0) (.node (iv 0) .nil .nil) .nil) (.node (iv 0) (.node .nils .nil .nil) .nil)) 5 25) (by repeat' (first|exact trivial|exact Nat.zero_le _|apply And.intro)) p4
 rw [s0] at pX
 have gS:decide (Int.ofNat d ≥ 0) = true :=decide_eq_true (Int.natCast_nonneg _)
 refine qbs hE rfl (by repeat' first|exact trivial|assumption|exact qal _|exact fun _ h => nomatch h|apply And.intro) (by simp [noP,Live,Lives]) fun S q pc hS hq hC hE => ?_
 conv => whnf
 repeat ((first|refine qaf (nthP n0) ?_|refine qah ir0 ?_|refine qag ir0 ?_|refine pkT ir0 ?_|refine qaa ir0 ?_|refine qad hC (pS) ?_|refine qad hC (qat g4 s) ?_|refine qad hC (w0) ?_|refine qad hC (qat h44 s) ?_|refine qad hC (qbu) ?_|refine qac hS (by kernel_rfl) ?_);conv => whnf)
 refine qaf (p' :=.ret (.slc 1 0 3 3)) (by kernel_rfl) ?_
 conv => whnf
 repeat ((first|refine qac hS (by kernel_rfl) ?_);conv => whnf)
 refine qb2 hC (HFun.pureR pX (ob2S ⟨rfl,rfl,trivial⟩)) ?_
 conv => whnf
 repeat ((first|refine qad hC (qat gS s) ?_|refine qac hS (by kernel_rfl) ?_);conv => whnf)
 refine qaf (p' :=.chk true (.ret (.lst (stA [p1,p2,p3]) 3 .no))) (by kernel_rfl) ?_
 conv => whnf
 repeat ((first|refine qac hS (by kernel_rfl) ?_);conv => whnf)
 refine qa7 hC ?_
 conv => whnf
 refine qba hS (pz) ?_
 conv => whnf
theorem qqr {s:List UInt8} {p1 p2 p3 p4:List UInt8} {d:Nat} {a b c:Nat} {why:List UInt8} (hs:s.length ≤ 400) (h4:4 ≤ (spl 10 s).length) (w0:Pure prog 86 [.str (gB (spl 10 s) 0),.str [114,117,108,101]] (.lst (stA [p1,p2,p3,p4]) 4 .no)) (s0:snI p4 = Int.ofNat d) (d3:d < 3) (t0:Pure prog 89 [.lst (stA [p1,p2,p3]) 3 .no] (nl (zl [a,b,c]))) (pz:qc4 prog 86 [.str (gB (spl 10 s) 1),.str [110,101,118,101,114]] (noP why)):qc4 prog 39 [.str s] (noP why) :=by
 have pS :=qbw s 10 (by omega)
 have lS :=qax (spl 10 s)
 have hl :=qb7 10 s
 obtain ⟨L,hL⟩ : ∃ L,L = spl 10 s :=⟨_,rfl⟩
 rw [← hL] at pS lS hl h4 w0 pz
 have ir0:inR 0 L.length = true :=qai (i :=0) (by omega)
 have n0:nth (stA L) (0:Int).toNat = some (.str (gB L 0)) :=qa4 (l :=L) (i :=0) (by omega)
 have g4:decide ((L.length:Int) ≥ 4) = true :=decide_eq_true (by omega)
 have h44:(((4:Nat):Int) == 4) = true :=rfl
 have lX :=qax [p1,p2,p3,p4]
 have pX :=qfy (W0 :=.cells (.node (iv 0) (.node (iv 0) (.node (iv 0) .nil .nil) .nil) (.node (iv 0) (.node .nils .nil .nil) .nil)) 5 25) (by repeat' (first|exact trivial|exact Nat.zero_le _|apply And.intro)) p4
 rw [s0] at pX
 have gS:decide (Int.ofNat d ≥ 0) = true :=decide_eq_true (Int.natCast_nonneg _)
 have ir1:inR 1 L.length = true :=qai (i :=1) (by omega)
 have n1:nth (stA L) (1:Int).toNat = some (.str (gB L 1)) :=qa4 (l :=L) (i :=1) (by omega)
 have w5:IntKind.i64.wrap (1 + Int.ofNat d) = Int.ofNat (d + 1) :=by rw [Int.add_comm];exact qav (m :=d + 1) (by omega)
 refine qbs hE rfl (by repeat' first|exact trivial|assumption|exact qal _|exact fun _ h => nomatch h|apply And.intro) (by simp [noP,Live,Lives]) fun S q pc hS hq hC hE => ?_
 conv => whnf
 repeat ((first|refine qaf (nthP n0) ?_|refine qah ir0 ?_|refine qag ir0 ?_|refine pkT ir0 ?_|refine qaa ir0 ?_|refine qad hC (pS) ?_|refine qad hC (qat g4 s) ?_|refine qad hC (w0) ?_|refine qad hC (qat h44 s) ?_|refine qad hC (qbu) ?_|refine qac hS (by kernel_rfl) ?_);conv => whnf)
 refine qaf (p' :=.ret (.slc 1 0 3 3)) (by kernel_rfl) ?_
 conv => whnf
 repeat ((first|refine qac hS (by kernel_rfl) ?_);conv => whnf)
 refine qb2 hC (HFun.pureR pX (ob2S ⟨rfl,rfl,trivial⟩)) ?_
 conv => whnf
 repeat ((first|refine qad hC (qat gS s) ?_|refine qac hS (by kernel_rfl) ?_);conv => whnf)
 refine qaf (p' :=.chk true (.ret (.lst (stA [p1,p2,p3]) 3 .no))) (by kernel_rfl) ?_
 conv => whnf
 repeat ((first|refine qaf (nthP n1) ?_|refine qah ir1 ?_|refine qag ir1 ?_|refine pkT ir1 ?_|refine qaa ir1 ?_|refine qad hC (t0) ?_|refine qac hS (by kernel_rfl) ?_);conv => whnf)
 refine qa7 hC ?_
 conv => whnf
 refine qba hS (pz) ?_
 conv => whnf
theorem qqq {s:List UInt8} {p1 p2 p3 p4:List UInt8} {d:Nat} {a b c:Nat} {l1:List (List UInt8)} {why:List UInt8} (hs:s.length ≤ 400) (h4:4 ≤ (spl 10 s).length) (w0:Pure prog 86 [.str (gB (spl 10 s) 0),.str [114,117,108,101]] (.lst (stA [p1,p2,p3,p4]) 4 .no)) (s0:snI p4 = Int.ofNat d) (d3:d < 3) (t0:Pure prog 89 [.lst (stA [p1,p2,p3]) 3 .no] (nl (zl [a,b,c]))) (w1:Pure prog 86 [.str (gB (spl 10 s) 1),.str [110,101,118,101,114]] (.lst (stA l1) l1.length .no)) (pz:qc4 prog 89 [.lst (stA l1) l1.length .no] (noP why)):qc4 prog 39 [.str s] (noP why) :=by
 have pS :=qbw s 10 (by omega)
 have lS :=qax (spl 10 s)
 have hl :=qb7 10 s
 obtain ⟨L,hL⟩ : ∃ L,L = spl 10 s :=⟨_,rfl⟩
 rw [← hL] at pS lS hl h4 w0 w1
 have ir0:inR 0 L.length = true :=qai (i :=0) (by omega)
 have n0:nth (stA L) (0:Int).toNat = some (.str (gB L 0)) :=qa4 (l :=L) (i :=0) (by omega)
 have g4:decide ((L.length:Int) ≥ 4) = true :=decide_eq_true (by omega)
 have h44:(((4:Nat):Int) == 4) = true :=rfl
 have lX :=qax [p1,p2,p3,p4]
 have pX :=qfy (W0 :=.cells (.node (iv 0) (.node (iv 0) (.node (iv 0) .nil .nil) .nil) (.node (iv 0) (.node .nils .nil .nil) .nil)) 5 25) (by repeat' (first|exact trivial|exact Nat.zero_le _|apply And.intro)) p4
 rw [s0] at pX
 have gS:decide (Int.ofNat d ≥ 0) = true :=decide_eq_true (Int.natCast_nonneg _)
 have ir1:inR 1 L.length = true :=qai (i :=1) (by omega)
 have n1:nth (stA L) (1:Int).toNat = some (.str (gB L 1)) :=qa4 (l :=L) (i :=1) (by omega)
 have w5:IntKind.i64.wrap (1 + Int.ofNat d) = Int.ofNat (d + 1) :=by rw [Int.add_comm];exact qav (m :=d + 1) (by omega)
 have lL1 :=qax l1
 refine qbs hE rfl (by repeat' first|exact trivial|assumption|exact qal _|exact fun _ h => nomatch h|apply And.intro) (by simp [noP,Live,Lives]) fun S q pc hS hq hC hE => ?_
 conv => whnf
 repeat ((first|refine qaf (nthP n0) ?_|refine qah ir0 ?_|refine qag ir0 ?_|refine pkT ir0 ?_|refine qaa ir0 ?_|refine qad hC (pS) ?_|refine qad hC (qat g4 s) ?_|refine qad hC (w0) ?_|refine qad hC (qat h44 s) ?_|refine qad hC (qbu) ?_|refine qac hS (by kernel_rfl) ?_);conv => whnf)
 refine qaf (p' :=.ret (.slc 1 0 3 3)) (by kernel_rfl) ?_
 conv => whnf
 repeat ((first|refine qac hS (by kernel_rfl) ?_);conv => whnf)
 refine qb2 hC (HFun.pureR pX (ob2S ⟨rfl,rfl,trivial⟩)) ?_
 conv => whnf
 repeat ((first|refine qad hC (qat gS s) ?_|refine qac hS (by kernel_rfl) ?_);conv => whnf)
 refine qaf (p' :=.chk true (.ret (.lst (stA [p1,p2,p3]) 3 .no))) (by kernel_rfl) ?_
 conv => whnf
 repeat ((first|refine qaf (nthP n1) ?_|refine qah ir1 ?_|refine qag ir1 ?_|refine pkT ir1 ?_|refine qaa ir1 ?_|refine qad hC (t0) ?_|refine qad hC (w1) ?_|refine qac hS (by kernel_rfl) ?_);conv => whnf)
 refine qa7 hC ?_
 conv => whnf
 refine qba hS (pz) ?_
 conv => whnf
end
end Go.Abs.Seat
