/-
  What a train turns its hand by.
  Lists of pairs as arguments: trains, and what is none.
  Which one of two trains is nearer.
  By how much a hand is off, and for how long it lasts: parts.
  By how much a hand is off: rounded towards 0, down and up.
  The law TrainNearers.
  Off, Lasts, Between: the program's and the document's.
  The law TrainOffs.
  Feasts and settings: lists of numbers.
  Hands that are set: whether they are kept, and where they are.
  The best of some settings.
  Chains as fractions.
  The fraction of a chain: Fold.
  The fraction of a chain: the document's.
  Where a hand that is set is.
  Chains of fractions.
  Lists held against each other; a chain's fraction has that chain.
  The document's chain.
  Rules: whether they are as defined, and their numbers of teeth.
  The best of some settings.
-/
import Derived.Test.YtpjclnoehlflcaaGreatDoorT2
import Derived.Test.YtpjclnoehlflcaaGreatDoorU4
namespace Go.Abs.Seat
open Go Go.Abs Go.Proofs.Tryz
set_option maxRecDepth 100000
set_option maxHeartbeats 4000000
attribute [local irreducible] IntKind.wrap pEq
theorem qlb {a:Nat} (h:a < 9223372036854775808):IntKind.i64.wrap (1 * Int.ofNat a) = Int.ofNat (1 * a) :=mulN (a :=1) (b :=a) (by omega)
theorem qpq (a0:Nat) (h0:a0 ≤ 60):Pure prog 127 [.lst [nv a0] 1 .no] (nv (1 * a0)) :=by
 refine pure_sym hE rfl ⟨⟨⟨trivial,trivial⟩,fun _ h => nomatch h⟩,trivial⟩ trivial fun S q pc hS hq hC hE => ?_
 conv=>whnf
 refine qae hE hS ?_
 conv=>whnf
 rw [show IntKind.i64.wrap (0 + 1) = 1 from qas (by decide) (by decide),qlb (a :=a0) (by omega)]
 refine qae hE hS ?_
 conv=>whnf
 exact ⟨_,rfl,Wk.refl _⟩
theorem qpp (a0 a1:Nat) (h0:a0 ≤ 60) (h1:a1 ≤ 60):Pure prog 127 [.lst [nv a0,nv a1] 2 .no] (nv (1 * a0 * a1)) :=by
 refine pure_sym hE rfl ⟨⟨⟨trivial,trivial,trivial⟩,fun _ h => nomatch h⟩,trivial⟩ trivial fun S q pc hS hq hC hE => ?_
 have q1:1 * a0 * a1 ≤ 60 * 60 :=Nat.mul_le_mul (show 1 * a0 ≤ 60 by omega) (by omega)
 conv=>whnf
 refine qae hE hS ?_
 conv=>whnf
 rw [show IntKind.i64.wrap (0 + 1) = 1 from qas (by decide) (by decide),qlb (a :=a0) (by omega)]
 refine qae hE hS ?_
 conv=>whnf
 rw [show IntKind.i64.wrap (1 + 1) = 2 from qas (by decide) (by decide),mulN (a :=1 * a0) (b :=a1) (by omega)]
 refine qae hE hS ?_
 conv=>whnf
 exact ⟨_,rfl,Wk.refl _⟩
theorem qpo (a0 a1 a2:Nat) (h0:a0 ≤ 60) (h1:a1 ≤ 60) (h2:a2 ≤ 60):Pure prog 127 [.lst [nv a0,nv a1,nv a2] 3 .no] (nv (1 * a0 * a1 * a2)) :=by
 refine pure_sym hE rfl ⟨⟨⟨trivial,trivial,trivial,trivial⟩,fun _ h => nomatch h⟩,trivial⟩ trivial fun S q pc hS hq hC hE => ?_
 have q1:1 * a0 * a1 ≤ 60 * 60 :=Nat.mul_le_mul (show 1 * a0 ≤ 60 by omega) (by omega)
 have q2:1 * a0 * a1 * a2 ≤ 3600 * 60 :=Nat.mul_le_mul (show 1 * a0 * a1 ≤ 3600 by omega) (by omega)
 conv=>whnf
 refine qae hE hS ?_
 conv=>whnf
 rw [show IntKind.i64.wrap (0 + 1) = 1 from qas (by decide) (by decide),qlb (a :=a0) (by omega)]
 refine qae hE hS ?_
 conv=>whnf
 rw [show IntKind.i64.wrap (1 + 1) = 2 from qas (by decide) (by decide),mulN (a :=1 * a0) (b :=a1) (by omega)]
 refine qae hE hS ?_
 conv=>whnf
 rw [show IntKind.i64.wrap (2 + 1) = 3 from qas (by decide) (by decide),mulN (a :=1 * a0 * a1) (b :=a2) (by omega)]
 refine qae hE hS ?_
 conv=>whnf
 exact ⟨_,rfl,Wk.refl _⟩
theorem qxp (a0 b0:Nat) (h0:(1 ≤ a0 ∧ a0 ≤ 60) ∧ (1 ≤ b0 ∧ b0 ≤ 60)):Pure prog 81 [.lst [nv a0,nv b0] 1 .no] (fv (Int.ofNat ((1 * a0) / Nat.gcd (1 * a0) (1 * b0))) (Int.ofNat ((1 * b0) / Nat.gcd (1 * a0) (1 * b0)))) :=by
 refine pure_sym hE rfl ⟨⟨⟨trivial,trivial,trivial⟩,fun _ h => nomatch h⟩,trivial⟩ ⟨trivial,trivial,trivial⟩ fun S q pc hS hq hC hE => ?_
 have hp:1 ≤ 1 * b0 :=by
  omega
 conv=>whnf
 refine qae hE hS ?_
 conv=>whnf
 refine qa8 hS (by kernel_rfl) ?_
 conv=>whnf
 rw [show IntKind.i64.wrap (0 + 1) = 1 from qas (by decide) (by decide)]
 refine qae hE hS ?_
 conv=>whnf
 refine qbp hC (qpq a0 h0.1.2) ?_
 conv=>whnf
 refine qbp hC (qpq b0 h0.2.2) ?_
 conv=>whnf
 refine qab hC (qdc (1 * a0) (1 * b0) (by omega) (by omega) hp) ?_
 conv=>whnf
 exact ⟨_,rfl,Wk.refl _⟩
theorem qs4 (a0 b0:Nat) (h0:(1 ≤ a0 ∧ a0 ≤ 60) ∧ (1 ≤ b0 ∧ b0 ≤ 60)):Pure prog 40 [.lst [nv a0,nv b0] 1 .no] (fv (Int.ofNat ((1 * a0) / Nat.gcd (1 * a0) (1 * b0))) (Int.ofNat ((1 * b0) / Nat.gcd (1 * a0) (1 * b0)))) :=by
 refine pure_sym hE rfl ⟨⟨⟨trivial,trivial,trivial⟩,fun _ h => nomatch h⟩,trivial⟩ ⟨trivial,trivial,trivial⟩ fun S q pc hS hq hC hE => ?_
 have hp:1 ≤ 1 * b0 :=by
  omega
 conv=>whnf
 refine qae hE hS ?_
 conv=>whnf
 refine qa8 hS (by kernel_rfl) ?_
 conv=>whnf
 rw [show IntKind.i64.wrap (0 + 1) = 1 from qas (by decide) (by decide),qlb (a :=a0) (by omega),qlb (a :=b0) (by omega)]
 refine qae hE hS ?_
 conv=>whnf
 refine qab hC (qem (1 * a0) (1 * b0) (by omega) (by omega) hp) ?_
 conv=>whnf
 exact ⟨_,rfl,Wk.refl _⟩
theorem qxo (a0 b0 a1 b1:Nat) (h0:(1 ≤ a0 ∧ a0 ≤ 60) ∧ (1 ≤ b0 ∧ b0 ≤ 60)) (h1:(1 ≤ a1 ∧ a1 ≤ 60) ∧ (1 ≤ b1 ∧ b1 ≤ 60)):Pure prog 81 [.lst [nv a0,nv b0,nv a1,nv b1] 2 .no] (fv (Int.ofNat ((1 * a0 * a1) / Nat.gcd (1 * a0 * a1) (1 * b0 * b1))) (Int.ofNat ((1 * b0 * b1) / Nat.gcd (1 * a0 * a1) (1 * b0 * b1)))) :=by
 refine pure_sym hE rfl ⟨⟨⟨trivial,trivial,trivial,trivial,trivial⟩,fun _ h => nomatch h⟩,trivial⟩ ⟨trivial,trivial,trivial⟩ fun S q pc hS hq hC hE => ?_
 have q1:1 * a0 * a1 ≤ 60 * 60 :=Nat.mul_le_mul (show 1 * a0 ≤ 60 by omega) (by omega)
 have p1:1 * b0 * b1 ≤ 60 * 60 :=Nat.mul_le_mul (show 1 * b0 ≤ 60 by omega) (by omega)
 have hp:1 ≤ 1 * b0 * b1 :=by
  have r1:1 ≤ 1 * b0 * b1 :=Nat.mul_pos (show 0 < 1 * b0 by omega) (by omega)
  omega
 conv=>whnf
 refine qae hE hS ?_
 conv=>whnf
 refine qa8 hS (by kernel_rfl) ?_
 conv=>whnf
 rw [show IntKind.i64.wrap (0 + 1) = 1 from qas (by decide) (by decide)]
 refine qae hE hS ?_
 conv=>whnf
 refine qa8 hS (by kernel_rfl) ?_
 conv=>whnf
 rw [show IntKind.i64.wrap (1 + 1) = 2 from qas (by decide) (by decide)]
 refine qae hE hS ?_
 conv=>whnf
 refine qbp hC (qpp a0 a1 h0.1.2 h1.1.2) ?_
 conv=>whnf
 refine qbp hC (qpp b0 b1 h0.2.2 h1.2.2) ?_
 conv=>whnf
 refine qab hC (qdc (1 * a0 * a1) (1 * b0 * b1) (by omega) (by omega) hp) ?_
 conv=>whnf
 exact ⟨_,rfl,Wk.refl _⟩
theorem qs3 (a0 b0 a1 b1:Nat) (h0:(1 ≤ a0 ∧ a0 ≤ 60) ∧ (1 ≤ b0 ∧ b0 ≤ 60)) (h1:(1 ≤ a1 ∧ a1 ≤ 60) ∧ (1 ≤ b1 ∧ b1 ≤ 60)):Pure prog 40 [.lst [nv a0,nv b0,nv a1,nv b1] 2 .no] (fv (Int.ofNat ((1 * a0 * a1) / Nat.gcd (1 * a0 * a1) (1 * b0 * b1))) (Int.ofNat ((1 * b0 * b1) / Nat.gcd (1 * a0 * a1) (1 * b0 * b1)))) :=by
 refine pure_sym hE rfl ⟨⟨⟨trivial,trivial,trivial,trivial,trivial⟩,fun _ h => nomatch h⟩,trivial⟩ ⟨trivial,trivial,trivial⟩ fun S q pc hS hq hC hE => ?_
 have q1:1 * a0 * a1 ≤ 60 * 60 :=Nat.mul_le_mul (show 1 * a0 ≤ 60 by omega) (by omega)
 have p1:1 * b0 * b1 ≤ 60 * 60 :=Nat.mul_le_mul (show 1 * b0 ≤ 60 by omega) (by omega)
 have hp:1 ≤ 1 * b0 * b1 :=by
  have r1:1 ≤ 1 * b0 * b1 :=Nat.mul_pos (show 0 < 1 * b0 by omega) (by omega)
  omega
 conv=>whnf
 refine qae hE hS ?_
 conv=>whnf
 refine qa8 hS (by kernel_rfl) ?_
 conv=>whnf
 rw [show IntKind.i64.wrap (0 + 1) = 1 from qas (by decide) (by decide),qlb (a :=a0) (by omega),qlb (a :=b0) (by omega)]
 refine qae hE hS ?_
 conv=>whnf
 refine qa8 hS (by kernel_rfl) ?_
 conv=>whnf
 rw [show IntKind.i64.wrap (1 + 1) = 2 from qas (by decide) (by decide),mulN (a :=1 * a0) (b :=a1) (by omega),mulN (a :=1 * b0) (b :=b1) (by omega)]
 refine qae hE hS ?_
 conv=>whnf
 refine qab hC (qem (1 * a0 * a1) (1 * b0 * b1) (by omega) (by omega) hp) ?_
 conv=>whnf
 exact ⟨_,rfl,Wk.refl _⟩
theorem qxn (a0 b0 a1 b1 a2 b2:Nat) (h0:(1 ≤ a0 ∧ a0 ≤ 60) ∧ (1 ≤ b0 ∧ b0 ≤ 60)) (h1:(1 ≤ a1 ∧ a1 ≤ 60) ∧ (1 ≤ b1 ∧ b1 ≤ 60)) (h2:(1 ≤ a2 ∧ a2 ≤ 60) ∧ (1 ≤ b2 ∧ b2 ≤ 60)):Pure prog 81 [.lst [nv a0,nv b0,nv a1,nv b1,nv a2,nv b2] 3 .no] (fv (Int.ofNat ((1 * a0 * a1 * a2) / Nat.gcd (1 * a0 * a1 * a2) (1 * b0 * b1 * b2))) (Int.ofNat ((1 * b0 * b1 * b2) / Nat.gcd (1 * a0 * a1 * a2) (1 * b0 * b1 * b2)))) :=by
 refine pure_sym hE rfl ⟨⟨⟨trivial,trivial,trivial,trivial,trivial,trivial,trivial⟩,fun _ h => nomatch h⟩,trivial⟩ ⟨trivial,trivial,trivial⟩ fun S q pc hS hq hC hE => ?_
 have q1:1 * a0 * a1 ≤ 60 * 60 :=Nat.mul_le_mul (show 1 * a0 ≤ 60 by omega) (by omega)
 have q2:1 * a0 * a1 * a2 ≤ 3600 * 60 :=Nat.mul_le_mul (show 1 * a0 * a1 ≤ 3600 by omega) (by omega)
 have p1:1 * b0 * b1 ≤ 60 * 60 :=Nat.mul_le_mul (show 1 * b0 ≤ 60 by omega) (by omega)
 have p2:1 * b0 * b1 * b2 ≤ 3600 * 60 :=Nat.mul_le_mul (show 1 * b0 * b1 ≤ 3600 by omega) (by omega)
 have hp:1 ≤ 1 * b0 * b1 * b2 :=by
  have r1:1 ≤ 1 * b0 * b1 :=Nat.mul_pos (show 0 < 1 * b0 by omega) (by omega)
  have r2:1 ≤ 1 * b0 * b1 * b2 :=Nat.mul_pos (show 0 < 1 * b0 * b1 by omega) (by omega)
  omega
 conv=>whnf
 refine qae hE hS ?_
 conv=>whnf
 refine qa8 hS (by kernel_rfl) ?_
 conv=>whnf
 rw [show IntKind.i64.wrap (0 + 1) = 1 from qas (by decide) (by decide)]
 refine qae hE hS ?_
 conv=>whnf
 refine qa8 hS (by kernel_rfl) ?_
 conv=>whnf
 rw [show IntKind.i64.wrap (1 + 1) = 2 from qas (by decide) (by decide)]
 refine qae hE hS ?_
 conv=>whnf
 refine qa8 hS (by kernel_rfl) ?_
 conv=>whnf
 rw [show IntKind.i64.wrap (2 + 1) = 3 from qas (by decide) (by decide)]
 refine qae hE hS ?_
 conv=>whnf
 refine qbp hC (qpo a0 a1 a2 h0.1.2 h1.1.2 h2.1.2) ?_
 conv=>whnf
 refine qbp hC (qpo b0 b1 b2 h0.2.2 h1.2.2 h2.2.2) ?_
 conv=>whnf
 refine qab hC (qdc (1 * a0 * a1 * a2) (1 * b0 * b1 * b2) (by omega) (by omega) hp) ?_
 conv=>whnf
 exact ⟨_,rfl,Wk.refl _⟩
theorem qs2 (a0 b0 a1 b1 a2 b2:Nat) (h0:(1 ≤ a0 ∧ a0 ≤ 60) ∧ (1 ≤ b0 ∧ b0 ≤ 60)) (h1:(1 ≤ a1 ∧ a1 ≤ 60) ∧ (1 ≤ b1 ∧ b1 ≤ 60)) (h2:(1 ≤ a2 ∧ a2 ≤ 60) ∧ (1 ≤ b2 ∧ b2 ≤ 60)):Pure prog 40 [.lst [nv a0,nv b0,nv a1,nv b1,nv a2,nv b2] 3 .no] (fv (Int.ofNat ((1 * a0 * a1 * a2) / Nat.gcd (1 * a0 * a1 * a2) (1 * b0 * b1 * b2))) (Int.ofNat ((1 * b0 * b1 * b2) / Nat.gcd (1 * a0 * a1 * a2) (1 * b0 * b1 * b2)))) :=by
 refine pure_sym hE rfl ⟨⟨⟨trivial,trivial,trivial,trivial,trivial,trivial,trivial⟩,fun _ h => nomatch h⟩,trivial⟩ ⟨trivial,trivial,trivial⟩ fun S q pc hS hq hC hE => ?_
 have q1:1 * a0 * a1 ≤ 60 * 60 :=Nat.mul_le_mul (show 1 * a0 ≤ 60 by omega) (by omega)
 have q2:1 * a0 * a1 * a2 ≤ 3600 * 60 :=Nat.mul_le_mul (show 1 * a0 * a1 ≤ 3600 by omega) (by omega)
 have p1:1 * b0 * b1 ≤ 60 * 60 :=Nat.mul_le_mul (show 1 * b0 ≤ 60 by omega) (by omega)
 have p2:1 * b0 * b1 * b2 ≤ 3600 * 60 :=Nat.mul_le_mul (show 1 * b0 * b1 ≤ 3600 by omega) (by omega)
 have hp:1 ≤ 1 * b0 * b1 * b2 :=by
  have r1:1 ≤ 1 * b0 * b1 :=Nat.mul_pos (show 0 < 1 * b0 by omega) (by omega)
  have r2:1 ≤ 1 * b0 * b1 * b2 :=Nat.mul_pos (show 0 < 1 * b0 * b1 by omega) (by omega)
  omega
 conv=>whnf
 refine qae hE hS ?_
 conv=>whnf
 refine qa8 hS (by kernel_rfl) ?_
 conv=>whnf
 rw [show IntKind.i64.wrap (0 + 1) = 1 from qas (by decide) (by decide),qlb (a :=a0) (by omega),qlb (a :=b0) (by omega)]
 refine qae hE hS ?_
 conv=>whnf
 refine qa8 hS (by kernel_rfl) ?_
 conv=>whnf
 rw [show IntKind.i64.wrap (1 + 1) = 2 from qas (by decide) (by decide),mulN (a :=1 * a0) (b :=a1) (by omega),mulN (a :=1 * b0) (b :=b1) (by omega)]
 refine qae hE hS ?_
 conv=>whnf
 refine qa8 hS (by kernel_rfl) ?_
 conv=>whnf
 rw [show IntKind.i64.wrap (2 + 1) = 3 from qas (by decide) (by decide),mulN (a :=1 * a0 * a1) (b :=a2) (by omega),mulN (a :=1 * b0 * b1) (b :=b2) (by omega)]
 refine qae hE hS ?_
 conv=>whnf
 refine qab hC (qem (1 * a0 * a1 * a2) (1 * b0 * b1 * b2) (by omega) (by omega) hp) ?_
 conv=>whnf
 exact ⟨_,rfl,Wk.refl _⟩
def flat:List (Int × Int) → List AV
 | [] => []
 |p :: r => iv p.1 :: iv p.2 :: flat r
abbrev pv (l:List (Int × Int)):AV :=.lst (flat l) l.length .no
theorem flat_len:∀ l,(flat l).length = l.length * 2
 | [] => rfl
 |p :: r => by simp only [flat,List.length_cons,flat_len r];omega
theorem qag:∀ l,Lives noL (flat l)
 | [] => trivial
 | _ :: r => ⟨trivial,trivial,qag r⟩
theorem pv_no (l:List (Int × Int)):Live noL (pv l) :=⟨qag l,fun _ h => nomatch h⟩
structure TV (v:AV) (k x y:Nat):Prop where
 sh:∃ xs,v = .lst xs k .no ∧ Lives noL xs
 k1:1 ≤ k ∧ k ≤ 3
 isT:Pure prog 63 [v] (.bool true)
 rT:Pure prog 18 [v] (.bool true)
 tu:Pure prog 81 [v] (fv (Int.ofNat x) (Int.ofNat y))
 rtu:Pure prog 40 [v] (fv (Int.ofNat x) (Int.ofNat y))
 bx:1 ≤ x ∧ x ≤ 216000
 by_:1 ≤ y ∧ y ≤ 216000
 g:Nat.gcd x y = 1
structure TN (v:AV) (k:Nat):Prop where
 sh:v = .nils ∧ k = 0 ∨ ∃ xs,v = .lst xs k .no ∧ Lives noL xs
 isT:Pure prog 63 [v] (.bool false)
 rT:k ≤ 8 → Pure prog 18 [v] (.bool false)
theorem qmv:Pure prog 63 [.nils] (.bool false) :=by
 refine pure_sym hE rfl ⟨trivial,trivial⟩ trivial fun S q pc hS hq hC hE => ?_
 conv=>whnf
 refine qab hC (qcv 0 1 3) ?_
 conv=>whnf
 exact ⟨_,rfl,Wk.refl _⟩
theorem qnz:Pure prog 18 [.nils] (.bool false) :=by
 refine pure_sym hE rfl ⟨trivial,trivial⟩ trivial fun S q pc hS hq hC hE => ?_
 conv=>whnf
 refine qae hE hS ?_
 conv=>whnf
 refine qab hC (qbg 0 1 3) ?_
 conv=>whnf
 exact ⟨_,rfl,Wk.refl _⟩
theorem qog (xs:List AV) (k:Nat) (hl:Lives noL xs) (h:¬ (1 ≤ k ∧ k ≤ 3)):Pure prog 63 [.lst xs k .no] (.bool false) :=by
 refine pure_sym hE rfl ⟨⟨hl,fun _ h => nomatch h⟩,trivial⟩ trivial fun S q pc hS hq hC hE => ?_
 conv=>whnf
 refine qab hC (qcv _ 1 3) ?_
 rw [zF (show ¬ ((1:Int) ≤ ((k:Nat):Int) ∧ ((k:Nat):Int) ≤ 3) by omega)]
 conv=>whnf
 exact ⟨_,rfl,Wk.refl _⟩
theorem qyq:TN .nils 0 :=⟨.inl ⟨rfl,rfl⟩,qmv,fun _ => qnz⟩
theorem qgr {a b:Int} (h:tth a ∧ tth b):∃ x y:Nat,a = Int.ofNat x ∧ b = Int.ofNat y ∧ ((1 ≤ x ∧ x ≤ 60) ∧ (1 ≤ y ∧ y ≤ 60)) :=by
 obtain ⟨⟨h1,h2⟩,h3,h4⟩ :=h
 refine ⟨a.toNat,b.toNat,?_,?_,?_⟩
 ·show a = ((a.toNat:Nat):Int);omega
 ·show b = ((b.toNat:Nat):Int);omega
 ·omega
theorem qjo {a b:Nat} (ha:1 ≤ a ∧ a ≤ 216000) (hb:1 ≤ b ∧ b ≤ 216000) :
  (1 ≤ a / Nat.gcd a b ∧ a / Nat.gcd a b ≤ 216000) ∧ (1 ≤ b / Nat.gcd a b ∧ b / Nat.gcd a b ≤ 216000) ∧ Nat.gcd (a / Nat.gcd a b) (b / Nat.gcd a b) = 1 :=by
 have hg:1 ≤ Nat.gcd a b :=qgm hb.1
 have h1:Nat.gcd a b ≤ a :=Nat.le_of_dvd (by omega) (Nat.gcd_dvd_left a b)
 have h2:Nat.gcd a b ≤ b :=Nat.le_of_dvd (by omega) (Nat.gcd_dvd_right a b)
 have h3 :=qyy (n :=a) hb.1
 have h4:a / Nat.gcd a b ≤ a :=Nat.div_le_self _ _
 have h5:b / Nat.gcd a b ≤ b :=Nat.div_le_self _ _
 have h6:1 ≤ a / Nat.gcd a b :=Nat.div_pos h1 (by omega)
 exact ⟨⟨h6,by omega⟩,⟨h3.2,by omega⟩,h3.1⟩
theorem qvw (l:List (Int × Int)):(∃ x y,TV (pv l) l.length x y) ∨ TN (pv l) l.length :=by
 by_cases hk:1 ≤ l.length ∧ l.length ≤ 3
 ·match l,hk with
  | [(a0,b0)],_ =>
   by_cases hg:gd [(a0,b0)]
   ·left
    have i :=qlm a0 b0
    have r :=qn2 a0 b0
    rw [zT hg] at i r
    obtain ⟨x0,y0,rfl,rfl,h0⟩ :=qgr hg.1
    have b :=qjo (a :=1 * x0) (b :=1 * y0) (by omega) (by omega)
    exact ⟨_,_,⟨_,rfl,qag _⟩,⟨Nat.le_of_ble_eq_true rfl,Nat.le_of_ble_eq_true rfl⟩,i,r,qxp x0 y0 h0,qs4 x0 y0 h0,b.1,b.2.1,b.2.2⟩
   ·right
    have i :=qlm a0 b0
    have r :=qn2 a0 b0
    rw [zF hg] at i r
    exact ⟨.inr ⟨_,rfl,qag _⟩,i,fun _ => r⟩
  | [(a0,b0),(a1,b1)],_ =>
   by_cases hg:gd [(a0,b0),(a1,b1)]
   ·left
    have i :=qll a0 b0 a1 b1
    have r :=qn1 a0 b0 a1 b1
    rw [zT hg] at i r
    obtain ⟨x0,y0,rfl,rfl,h0⟩ :=qgr hg.1
    obtain ⟨x1,y1,rfl,rfl,h1⟩ :=qgr hg.2.1
    have q1:1 * x0 * x1 ≤ 60 * 60 :=Nat.mul_le_mul (show 1 * x0 ≤ 60 by omega) (by omega)
    have q2:1 * y0 * y1 ≤ 60 * 60 :=Nat.mul_le_mul (show 1 * y0 ≤ 60 by omega) (by omega)
    have p1:1 ≤ 1 * x0 * x1 :=Nat.mul_pos (show 0 < 1 * x0 by omega) (by omega)
    have p2:1 ≤ 1 * y0 * y1 :=Nat.mul_pos (show 0 < 1 * y0 by omega) (by omega)
    have b :=qjo (a :=1 * x0 * x1) (b :=1 * y0 * y1) (by omega) (by omega)
    exact ⟨_,_,⟨_,rfl,qag _⟩,⟨Nat.le_of_ble_eq_true rfl,Nat.le_of_ble_eq_true rfl⟩,i,r,qxo x0 y0 x1 y1 h0 h1,qs3 x0 y0 x1 y1 h0 h1,b.1,b.2.1,b.2.2⟩
   ·right
    have i :=qll a0 b0 a1 b1
    have r :=qn1 a0 b0 a1 b1
    rw [zF hg] at i r
    exact ⟨.inr ⟨_,rfl,qag _⟩,i,fun _ => r⟩
  | [(a0,b0),(a1,b1),(a2,b2)],_ =>
   by_cases hg:gd [(a0,b0),(a1,b1),(a2,b2)]
   ·left
    have i :=qlk a0 b0 a1 b1 a2 b2
    have r :=qn0 a0 b0 a1 b1 a2 b2
    rw [zT hg] at i r
    obtain ⟨x0,y0,rfl,rfl,h0⟩ :=qgr hg.1
    obtain ⟨x1,y1,rfl,rfl,h1⟩ :=qgr hg.2.1
    obtain ⟨x2,y2,rfl,rfl,h2⟩ :=qgr hg.2.2.1
    have q1:1 * x0 * x1 ≤ 60 * 60 :=Nat.mul_le_mul (show 1 * x0 ≤ 60 by omega) (by omega)
    have q2:1 * y0 * y1 ≤ 60 * 60 :=Nat.mul_le_mul (show 1 * y0 ≤ 60 by omega) (by omega)
    have q3:1 * x0 * x1 * x2 ≤ 60 * 60 * 60 :=Nat.mul_le_mul q1 (by omega)
    have q4:1 * y0 * y1 * y2 ≤ 60 * 60 * 60 :=Nat.mul_le_mul q2 (by omega)
    have p1:1 ≤ 1 * x0 * x1 :=Nat.mul_pos (show 0 < 1 * x0 by omega) (by omega)
    have p2:1 ≤ 1 * y0 * y1 :=Nat.mul_pos (show 0 < 1 * y0 by omega) (by omega)
    have p3:1 ≤ 1 * x0 * x1 * x2 :=Nat.mul_pos p1 (by omega)
    have p4:1 ≤ 1 * y0 * y1 * y2 :=Nat.mul_pos p2 (by omega)
    have b :=qjo (a :=1 * x0 * x1 * x2) (b :=1 * y0 * y1 * y2) (by omega) (by omega)
    exact ⟨_,_,⟨_,rfl,qag _⟩,⟨Nat.le_of_ble_eq_true rfl,Nat.le_of_ble_eq_true rfl⟩,i,r,qxn x0 y0 x1 y1 x2 y2 h0 h1 h2,qs2 x0 y0 x1 y1 x2 y2 h0 h1 h2,b.1,b.2.1,b.2.2⟩
   ·right
    have i :=qlk a0 b0 a1 b1 a2 b2
    have r :=qn0 a0 b0 a1 b1 a2 b2
    rw [zF hg] at i r
    exact ⟨.inr ⟨_,rfl,qag _⟩,i,fun _ => r⟩
 ·right
  refine ⟨.inr ⟨_,rfl,qag _⟩,qog _ _ (qag l) hk,fun h8 => ?_⟩
  match l,h8 with
  | [],_ => exact qy5
  | [_],_ => exact absurd ⟨Nat.le_of_ble_eq_true rfl,Nat.le_of_ble_eq_true rfl⟩ hk
  | [_,_],_ => exact absurd ⟨Nat.le_of_ble_eq_true rfl,Nat.le_of_ble_eq_true rfl⟩ hk
  | [_,_,_],_ => exact absurd ⟨Nat.le_of_ble_eq_true rfl,Nat.le_of_ble_eq_true rfl⟩ hk
  | [(a0,b0),(a1,b1),(a2,b2),(a3,b3)],_ => exact qy4 ..
  | [(a0,b0),(a1,b1),(a2,b2),(a3,b3),(a4,b4)],_ => exact qy3 ..
  | [(a0,b0),(a1,b1),(a2,b2),(a3,b3),(a4,b4),(a5,b5)],_ => exact qy2 ..
  | [(a0,b0),(a1,b1),(a2,b2),(a3,b3),(a4,b4),(a5,b5),(a6,b6)],_ => exact qy1 ..
  | [(a0,b0),(a1,b1),(a2,b2),(a3,b3),(a4,b4),(a5,b5),(a6,b6),(a7,b7)],_ => exact qy0 ..
  | _ :: _ :: _ :: _ :: _ :: _ :: _ :: _ :: _ :: _,h8 => simp only [List.length_cons] at h8;omega
theorem qwo {a b:Nat} (h1:a < 4611686018427387904) (h2:b < 4611686018427387904) :
  maxI (Int.ofNat a - Int.ofNat b) (IntKind.i64.wrap (0 - (Int.ofNat a - Int.ofNat b))) = Int.ofNat (gapN a b) :=by
 rw [qas (by show _ ≤ (0:Int) - ((a:Int) - (b:Int));omega) (by show (0:Int) - ((a:Int) - (b:Int)) < _;omega)]
 unfold maxI gapN
 show (if (0:Int) - ((a:Int) - (b:Int)) > (a:Int) - (b:Int) then (0:Int) - ((a:Int) - (b:Int)) else (a:Int) - (b:Int)) = (((a - b) + (b - a):Nat):Int)
 split <;> omega
theorem qlv (x y n d:Nat) (h1:x * d < 4611686018427387904) (h2:n * y < 4611686018427387904) :
  Pure prog 101 [fv (Int.ofNat x) (Int.ofNat y),fv (Int.ofNat n) (Int.ofNat d)] (fv (Int.ofNat (gapN (x * d) (n * y))) (Int.ofNat y)) :=by
 refine pure_sym hE rfl ⟨⟨trivial,trivial,trivial⟩,⟨trivial,trivial,trivial⟩,trivial⟩ ⟨trivial,trivial,trivial⟩ fun S q pc hS hq hC hE => ?_
 conv=>whnf
 refine qab hC (qd7 x y n d h1 h2) ?_
 conv=>whnf
 rw [qwo h1 h2]
 exact ⟨_,rfl,Wk.refl _⟩
theorem qj1 (a:Int):Pure prog 124 [iv a] (.bool false) :=by
 refine pure_sym hE rfl ⟨trivial,trivial⟩ trivial fun S q pc hS hq hC hE => ?_
 conv=>whnf
 exact ⟨_,rfl,wkb (by rw [bne_self_eq_false])⟩
def ordI (a b:Int):Int :=if a < b then -1 else if b < a then 1 else 0
theorem qfm (a b:Int):Pure prog 74 [iv a,iv b] (iv (ordI a b)) :=by
 refine pure_sym hE rfl ⟨trivial,trivial,trivial⟩ trivial fun S q pc hS hq hC hE => ?_
 conv=>whnf
 refine qab hC (qj1 a) ?_
 conv=>whnf
 refine qab hC (qj1 b) ?_
 conv=>whnf
 by_cases h1:a < b
 ·rw [show decide (a < b) = true from zT h1]
  conv=>whnf
  exact ⟨_,rfl,by rw [show ordI a b = -1 from if_pos h1];exact Wk.refl _⟩
 ·rw [show decide (a < b) = false from zF h1]
  conv=>whnf
  by_cases h2:b < a
  ·rw [show decide (a > b) = true from zT h2]
   conv=>whnf
   exact ⟨_,rfl,by rw [show ordI a b = 1 from (if_neg h1).trans (if_pos h2)];exact Wk.refl _⟩
  ·rw [show decide (a > b) = false from zF h2]
   conv=>whnf
   exact ⟨_,rfl,by rw [show ordI a b = 0 from (if_neg h1).trans (if_neg h2)];exact Wk.refl _⟩
abbrev dN (p q:Nat):Int :=Int.ofNat p - Int.ofNat q
theorem qqn (p q t:Nat):dN p q * Int.ofNat t = dN (p * t) (q * t) :=by
 show ((p:Int) - (q:Int)) * (t:Int) = ((p * t:Nat):Int) - ((q * t:Nat):Int)
 rw [Int.sub_mul,Int.natCast_mul,Int.natCast_mul]
theorem qft {p q:Nat} (h1:p < 9223372036854775808) (h2:q < 9223372036854775808):IntKind.i64.wrap (dN p q) = dN p q :=by
 apply qas
 ·show _ ≤ (p:Int) - (q:Int);omega
 ·show (p:Int) - (q:Int) < _;omega
theorem qo3 {p q:Nat} (h1:p < 9223372036854775808) (h2:q < 9223372036854775808):IntKind.i64.wrap (0 - dN p q) = dN q p :=by
 rw [show (0:Int) - dN p q = dN q p by show (0:Int) - ((p:Int) - (q:Int)) = (q:Int) - (p:Int);omega]
 exact qft h2 h1
theorem qjk (p b:Nat):(Int.ofNat p).tdiv (Int.ofNat b) = Int.ofNat (p / b) :=rfl
theorem q0d {p q b:Nat}:(dN p q).tdiv (Int.ofNat b) = dN ((p - q) / b) ((q - p) / b) :=by
 by_cases h:q ≤ p
 ·rw [show dN p q = Int.ofNat (p - q) by show (p:Int) - (q:Int) = ((p - q:Nat):Int);omega,qjk,show q - p = 0 by omega,Nat.zero_div]
  show (((p - q) / b:Nat):Int) = (((p - q) / b:Nat):Int) - ((0:Nat):Int)
  omega
 ·rw [show dN p q = -Int.ofNat (q - p) by show (p:Int) - (q:Int) = -((q - p:Nat):Int);omega,Int.neg_tdiv,qjk,show p - q = 0 by omega,Nat.zero_div]
  show -(((q - p) / b:Nat):Int) = ((0:Nat):Int) - (((q - p) / b:Nat):Int)
  omega
theorem q1c {p q:Nat}:dN p q < 0 ↔ p < q :=by show (p:Int) - (q:Int) < 0 ↔ _;omega
theorem qiu (n:Int):Pure prog 67 [iv n] (.bool (decide (0 ≤ n ∧ n ≤ 10000))) :=by
 refine pure_sym hE rfl ⟨trivial,trivial⟩ trivial fun S q pc hS hq hC hE => ?_
 conv=>whnf
 refine qab hC (qcv n 0 10000) ?_
 conv=>whnf
 exact ⟨_,rfl,Wk.refl _⟩
theorem qme (n:Int):Pure prog 22 [iv n] (.bool (decide (0 ≤ n ∧ n ≤ 10000))) :=by
 refine pure_sym hE rfl ⟨trivial,trivial⟩ trivial fun S q pc hS hq hC hE => ?_
 conv=>whnf
 refine qab hC (qbg n 0 10000) ?_
 conv=>whnf
 exact ⟨_,rfl,Wk.refl _⟩
theorem qu8 {n d x y:Nat} (hn:n ≤ 50000) (hd:d ≤ 50000) (hx:x ≤ 216000) (hy:y ≤ 216000):x * d ≤ 10800000000 ∧ n * y ≤ 10800000000 ∧ y * d ≤ 10800000000 :=by
 have b1:x * d ≤ 216000 * 50000 :=Nat.mul_le_mul hx hd
 have b2:n * y ≤ 50000 * 216000 :=Nat.mul_le_mul hn hy
 have b3:y * d ≤ 216000 * 50000 :=Nat.mul_le_mul hy hd
 omega
theorem ql5 {v:AV} {k x y:Nat} (hv:TV v k x y) (n d:Nat) (hn:n ≤ 50000) (hd:1 ≤ d ∧ d ≤ 50000) :
  Pure prog 68 [v,fv (Int.ofNat n) (Int.ofNat d)] (.agg [iv (dN (x * d * 21600) (n * y * 21600)),nv (y * d)]) :=by
 obtain ⟨xs,rfl,lx⟩ :=hv.sh
 have b :=qu8 hn hd.2 hv.bx.2 hv.by_.2
 refine pure_sym hE rfl ⟨⟨lx,fun _ h => nomatch h⟩,⟨trivial,trivial,trivial⟩,trivial⟩ ⟨trivial,trivial,trivial⟩ fun S q pc hS hq hC hE => ?_
 conv=>whnf
 refine qab hC hv.tu ?_
 conv=>whnf
 refine qab hC (qd7 x y n d (by omega) (by omega)) ?_
 conv=>whnf
 refine qa8 hS (by kernel_rfl) ?_
 conv=>whnf
 rw [show (Int.ofNat (x * d) - Int.ofNat (n * y)) * 21600 = dN (x * d * 21600) (n * y * 21600) from qqn _ _ 21600,qft (by omega) (by omega),mulN (a :=y) (b :=d) (by omega)]
 exact ⟨_,rfl,Wk.refl _⟩
theorem qsy {v:AV} {k x y:Nat} (hv:TV v k x y) (n d t:Nat) (hn:n ≤ 50000) (hd:1 ≤ d ∧ d ≤ 50000) (ht:t ≤ 10000) :
  Pure prog 141 [v,fv (Int.ofNat n) (Int.ofNat d),nv t] (.tup [iv (dN (x * d * t * 21600) (n * y * t * 21600)),nv (y * d)]) :=by
 obtain ⟨xs,rfl,lx⟩ :=hv.sh
 have b :=qu8 hn hd.2 hv.bx.2 hv.by_.2
 have b1:x * d * t ≤ 10800000000 * 10000 :=Nat.mul_le_mul b.1 ht
 have b2:n * y * t ≤ 10800000000 * 10000 :=Nat.mul_le_mul b.2.1 ht
 refine pure_sym hE rfl ⟨⟨lx,fun _ h => nomatch h⟩,⟨trivial,trivial,trivial⟩,trivial,trivial⟩ ⟨trivial,trivial,trivial⟩ fun S q pc hS hq hC hE => ?_
 conv=>whnf
 refine qab hC hv.rtu ?_
 conv=>whnf
 refine qa8 hS (by kernel_rfl) ?_
 conv=>whnf
 rw [mulN (a :=x) (b :=d) (by omega),mulN (a :=n) (b :=y) (by omega),qft (by omega) (by omega),qqn,qft (by omega) (by omega),
  show dN (x * d * t) (n * y * t) * 21600 = dN (x * d * t * 21600) (n * y * t * 21600) from qqn _ _ 21600,qft (by omega) (by omega),mulN (a :=y) (b :=d) (by omega)]
 exact ⟨_,rfl,Wk.refl _⟩
def trV (p q b:Nat):Int :=dN ((p - q) / b) ((q - p) / b)
abbrev offP (x d t:Nat):Nat :=x * d * t * 21600
abbrev offQ (y n t:Nat):Nat :=n * y * t * 21600
def offV (x y n d t:Nat):Int :=trV (offP x d t) (offQ y n t) (y * d)
theorem qtu {n d x y t:Nat} (hn:n ≤ 50000) (hd:d ≤ 50000) (hx:x ≤ 216000) (hy:y ≤ 216000) (ht:t ≤ 10000) :
  x * d * t ≤ 108000000000000 ∧ n * y * t ≤ 108000000000000 ∧ x * d ≤ 10800000000 ∧ n * y ≤ 10800000000 ∧ y * d ≤ 10800000000 :=by
 have b :=qu8 hn hd hx hy
 have b1:x * d * t ≤ 10800000000 * 10000 :=Nat.mul_le_mul b.1 ht
 have b2:n * y * t ≤ 10800000000 * 10000 :=Nat.mul_le_mul b.2.1 ht
 omega
theorem qng {p q b:Nat} (h1:p < 9223372036854775808) (h2:q < 9223372036854775808):IntKind.i64.wrap ((dN p q).tdiv (Int.ofNat b)) = trV p q b :=by
 rw [q0d]
 have :=Nat.div_le_self (p - q) b
 have :=Nat.div_le_self (q - p) b
 exact qft (by omega) (by omega)
theorem qo2 {p q b:Nat} (h1:p < 9223372036854775808) (h2:q < 9223372036854775808):IntKind.i64.wrap (0 - trV p q b) = trV q p b :=by
 have :=Nat.div_le_self (p - q) b
 have :=Nat.div_le_self (q - p) b
 exact qo3 (by omega) (by omega)
theorem mulT {p q t:Nat} (h1:p * t * 21600 < 9223372036854775808) (h2:q * t * 21600 < 9223372036854775808):IntKind.i64.wrap (dN (p * 21600) (q * 21600) * Int.ofNat t) = dN (p * t * 21600) (q * t * 21600) :=by
 rw [qqn,Nat.mul_right_comm p,Nat.mul_right_comm q,qft h1 h2]
theorem qq9 {v:AV} {k x y:Nat} (hv:TV v k x y) (n d t:Nat) (hn:n ≤ 50000) (hd:1 ≤ d ∧ d ≤ 50000) (ht:t ≤ 10000) :
  Pure prog 115 [v,fv (Int.ofNat n) (Int.ofNat d),nv t] (iv (offV x y n d t)) :=by
 have p1 :=qsy hv n d t hn hd ht
 have b :=qtu hn hd.2 hv.bx.2 hv.by_.2 ht
 have hyd:1 ≤ y * d :=Nat.mul_pos hv.by_.1 hd.1
 obtain ⟨xs,rfl,lx⟩ :=hv.sh
 refine pure_sym hE rfl ⟨⟨lx,fun _ h => nomatch h⟩,⟨trivial,trivial,trivial⟩,trivial,trivial⟩ trivial fun S q pc hS hq hC hE => ?_
 conv=>whnf
 refine qab hC p1 ?_
 conv=>whnf
 by_cases h:offP x d t < offQ y n t
 ·rw [show decide (dN (offP x d t) (offQ y n t) < 0) = true from zT (q1c.2 h)]
  conv=>whnf
  refine qaa (ne0 hyd) ?_
  conv=>whnf
  rw [qo3 (by omega) (by omega),qng (by omega) (by omega),qo2 (by omega) (by omega)]
  exact ⟨_,rfl,Wk.refl _⟩
 ·rw [show decide (dN (offP x d t) (offQ y n t) < 0) = false from zF fun k => h (q1c.1 k)]
  conv=>whnf
  refine qaa (ne0 hyd) ?_
  conv=>whnf
  rw [qng (by omega) (by omega)]
  exact ⟨_,rfl,Wk.refl _⟩
abbrev farN (n d x y w:Nat):Nat :=gapN (x * d) (n * y) * w
theorem qhh {n d x y w:Nat} (hn:n ≤ 50000) (hd:d ≤ 50000) (hx:x ≤ 216000) (hy:y ≤ 216000) (hw:w ≤ 216000) :
  x * d ≤ 10800000000 ∧ n * y ≤ 10800000000 ∧ gapN (x * d) (n * y) * w ≤ 21600000000 * 216000 :=by
 have b1:x * d ≤ 216000 * 50000 :=Nat.mul_le_mul hx hd
 have b2:n * y ≤ 50000 * 216000 :=Nat.mul_le_mul hn hy
 exact ⟨by omega,by omega,Nat.mul_le_mul (by unfold gapN;omega) hw⟩
theorem qmf {v u:AV} {k j x y z w:Nat} (hv:TV v k x y) (hu:TV u j z w) (n d:Nat) (hn:n ≤ 50000) (hd:1 ≤ d ∧ d ≤ 50000) :
  Pure prog 99 [fv (Int.ofNat n) (Int.ofNat d),v,u] (iv (ordI (Int.ofNat (farN n d x y w)) (Int.ofNat (farN n d z w y)))) :=by
 obtain ⟨xs,rfl,lx⟩ :=hv.sh
 obtain ⟨us,rfl,lu⟩ :=hu.sh
 have q1 :=qhh (w :=w) hn hd.2 hv.bx.2 hv.by_.2 hu.by_.2
 have q2 :=qhh (w :=y) hn hd.2 hu.bx.2 hu.by_.2 hv.by_.2
 refine pure_sym hE rfl ⟨⟨trivial,trivial,trivial⟩,⟨lx,fun _ h => nomatch h⟩,⟨lu,fun _ h => nomatch h⟩,trivial⟩ trivial fun S q pc hS hq hC hE => ?_
 conv=>whnf
 refine qab hC hv.rtu ?_
 conv=>whnf
 refine qab hC hu.rtu ?_
 conv=>whnf
 refine qab hC (qcy n d x y (by omega) (by omega)) ?_
 conv=>whnf
 refine qab hC (qcy n d z w (by omega) (by omega)) ?_
 conv=>whnf
 refine qa8 hS (by kernel_rfl) ?_
 conv=>whnf
 rw [mulN (a :=gapN (x * d) (n * y)) (b :=w) (by omega),mulN (a :=gapN (z * d) (n * w)) (b :=y) (by omega)]
 by_cases h1:farN n d x y w < farN n d z w y
 ·rw [qch h1]
  conv=>whnf
  exact ⟨_,rfl,by rw [show ordI (Int.ofNat (farN n d x y w)) (Int.ofNat (farN n d z w y)) = -1 from if_pos (of_decide_eq_true (qch h1))];exact Wk.refl _⟩
 ·rw [qcl h1]
  conv=>whnf
  by_cases h2:farN n d z w y < farN n d x y w
  ·rw [q18 h2]
   conv=>whnf
   exact ⟨_,rfl,by rw [show ordI (Int.ofNat (farN n d x y w)) (Int.ofNat (farN n d z w y)) = 1 from (if_neg (of_decide_eq_false (qcl h1))).trans (if_pos (of_decide_eq_true (qch h2)))];exact Wk.refl _⟩
  ·rw [q19 h2]
   conv=>whnf
   exact ⟨_,rfl,by rw [show ordI (Int.ofNat (farN n d x y w)) (Int.ofNat (farN n d z w y)) = 0 from (if_neg (of_decide_eq_false (qcl h1))).trans (if_neg (of_decide_eq_false (qcl h2)))];exact Wk.refl _⟩
structure TS (v:AV) (k:Nat) (b:Bool):Prop where
 sh:v = .nils ∧ k = 0 ∨ ∃ xs,v = .lst xs k .no ∧ Lives noL xs
 isT:Pure prog 63 [v] (.bool b)
 rT:k ≤ 8 → Pure prog 18 [v] (.bool b)
theorem TS.no {v:AV} {k:Nat} {b:Bool} (h:TS v k b):Live noL v :=by
 rcases h.sh with ⟨rfl,_⟩ | ⟨xs,rfl,hl⟩
 ·trivial
 ·exact ⟨hl,fun _ h => nomatch h⟩
theorem qmb (n:Int):Pure prog 14 [iv n] (.bool (decide (n ≤ 8))) :=by
 refine pure_sym hE rfl ⟨trivial,trivial⟩ trivial fun S q pc hS hq hC hE => ?_
 conv=>whnf
 exact ⟨_,rfl,Wk.refl _⟩
theorem qcp {n:Int} (h:n ≤ 8):Pure prog 14 [iv n] (.bool true) :=by have :=qmb n;rwa [zT h] at this
theorem qv0 {n:Int} (h:¬ n ≤ 8):Pure prog 14 [iv n] (.bool false) :=by have :=qmb n;rwa [zF h] at this
theorem qp2 (a b:Int):ordI b a = -ordI a b :=by unfold ordI;split <;> split <;> omega
end Go.Abs.Seat
/-! Off, Lasts, Between: the program's and the document's. -/
namespace Go.Abs.Seat
open Go Go.Abs Go.Proofs.Tryz
set_option maxRecDepth 100000
set_option maxHeartbeats 4000000
attribute [local irreducible] IntKind.wrap pEq
mutual
theorem qxh:∀ (v:AV),Live noL v → bd v = 0
 | .unk,_ => rfl
 | .int _ _,_ => rfl
 | .bool _,_ => rfl
 | .str _,_ => rfl
 | .nilp,_ => rfl
 | .ptr _ _,h => h.elim
 | .lptr xs _,h => qex xs h
 | .gp _ _,_ => rfl
 | .nils,_ => rfl
 | .slc _ _ _ _,h => h.elim
 | .lst xs _ .no,h => qex xs h.1
 | .lst xs _ .full,h => qex xs h.1
 | .lst xs _ (.ch c),h => (h.2 c rfl).elim
 | .nilm,_ => rfl
 | .map _,h => h.elim
 | .nilf,_ => rfl
 | .func _ f c,h => by show Nat.max (bdl f) (bdl c) = 0;rw [qex f h.1,qex c h.2];rfl
 | .yld _,h => h.elim
 | .nili,_ => rfl
 | .iface _ a,h => qxh a h
 | .agg cs,h => qex cs h
 | .tup cs,h => qex cs h
theorem qex:∀ (xs:List AV),Lives noL xs → bdl xs = 0
 | [],_ => rfl
 |x :: xs,h => by show Nat.max (bd x) (bdl xs) = 0;rw [qxh x h.1,qex xs h.2];rfl
end
theorem qaj {xs:List AV} (h:Lives noL xs) {n:Nat}:bdl xs ≤ n :=by rw [qex xs h];exact Nat.zero_le _
theorem bz {v:AV} (h:Live noL v) {n:Nat}:bd v ≤ n :=by rw [qxh v h];exact Nat.zero_le _
theorem qac {p p':Plan} {y:Bool} {s n:Nat} {h:Tr AObj} {K:KP} (e:p = p') (k:runP p' y s h n K):runP p y s h n K :=e ▸ k
theorem nthP {xs:List AV} {o:Nat} {v:AV} (e:nth xs o = some v):(match nth xs o with | some v => Plan.ret v | none => Plan.fail) = Plan.ret v :=by rw [e]
end Go.Abs.Seat

namespace Go.Abs.Seat
open Go Go.Abs Go.Proofs.Tryz
set_option maxRecDepth 100000
set_option maxHeartbeats 4000000
attribute [local irreducible] IntKind.wrap pEq
theorem q1w {f:FuncId} {xs:List AV} {p:Prop} [Decidable p] (h:Pure prog f xs (.bool (decide p))):∃ b,Pure prog f xs (.bool b) ∧ (b = true ↔ p) :=⟨_,h,decide_eq_true_iff⟩
def ivs:List Int → List AV
 | [] => []
 |x :: r => iv x :: ivs r
abbrev nl (l:List Int):AV :=.lst (ivs l) l.length .no
abbrev gi (l:List Int) (i:Nat):Int :=l.getD i 0
theorem ivs_len:∀ l,(ivs l).length = l.length
 | [] => rfl
 | _ :: r => by simp only [ivs,List.length_cons,ivs_len r]
theorem qd4:∀ l,Lives noL (ivs l)
 | [] => trivial
 | _ :: r => ⟨trivial,qd4 r⟩
theorem nl_no (l:List Int):Live noL (nl l) :=⟨qd4 l,fun _ h => nomatch h⟩
theorem qtx:∀ (l:List Int) (i:Nat),i < l.length → nth (ivs l) i = some (iv (gi l i))
 |x :: r,0,_ => rfl
 |x :: r,i + 1,h => qtx r i (by simpa using h)
 | [],i,h => absurd h (Nat.not_lt_zero _)
theorem qa4 {l:List Int} {i:Nat} (h:i < l.length):nth (ivs l) (i * 1) = some (iv (gi l i)) :=by rw [Nat.mul_one];exact qtx l i h
theorem qaf {i n:Nat} (h:i < n):inR (Int.ofNat i) n = true :=by
 unfold inR
 rw [zT (show (0:Int) ≤ Int.ofNat i by show (0:Int) ≤ (i:Int);omega),zT (show Int.ofNat i < (n:Int) by show (i:Int) < (n:Int);omega)]
 rfl
theorem qyf {b:Bool} {p:Prop} (h:b = true ↔ p) (hp:¬ p):b = false :=Bool.eq_false_iff.2 fun e => hp (h.1 e)
theorem upto {p:Nat → Prop} {i:Nat} (h:∀ j,j < i → p j) (hi:p i):∀ j,j < i + 1 → p j :=fun j hj => by
 by_cases e:j = i
 ·subst e;exact hi
 ·exact h j (by omega)
def IL (v:AV) (l:List Int):Prop :=v = .nils ∧ l = [] ∨ v = nl l
theorem IL.no {v:AV} {l:List Int} (h:IL v l):Live noL v :=by
 rcases h with ⟨rfl,_⟩ | rfl
 ·trivial
 ·exact nl_no l
theorem qu6 (l:List Int) {i:Nat} (h:i < l.length):l.drop i = gi l i :: l.drop (i + 1) :=by
 rw [List.drop_eq_getElem_cons h]
 simp [gi,List.getD,h]
structure Days (f s:List Int):Prop where
 fl:f.length ≤ 8
 ix:∀ i,i < s.length → (0 ≤ gi s i ∧ gi s i < f.length)
 rg:∀ i,i < s.length → (1 ≤ gi f (gi s i).toNat ∧ gi f (gi s i).toNat ≤ 10000)
 up:∀ i,i + 1 < s.length → gi f (gi s i).toNat < gi f (gi s (i + 1)).toNat
 sl:s.length ≤ f.length
def kp (L u:Int):Int → List Int → Prop
 |last,[] => u - last ≤ L
 |last,x :: r => if x < u then x - last ≤ L ∧ kp L u x r else u - last ≤ L
end Go.Abs.Seat
/-! The best of some settings. -/
namespace Go.Abs.Seat
open Go Go.Abs Go.Proofs.Tryz
set_option maxRecDepth 100000
set_option maxHeartbeats 4000000
attribute [local irreducible] pEq
section
attribute [local irreducible] IntKind.wrap
def sv:List Int → AV
 | [] => .nils
 |x :: r => nl (x :: r)
theorem ql7 (l:List Int):Live noL (sv l) :=by
 cases l with
 |nil => trivial
 |cons x r => exact nl_no _
theorem qzl (x y:Int):Pure prog 73 [.lst [iv x,iv y] 2 .full] (iv (if x = 0 then y else x)) :=by
 refine zA fun S q pc hS hq hC hE => ?_
 conv=>whnf
 refine qae hE hS ?_
 conv=>whnf
 by_cases h:x = 0
 ·rw [show (x != 0) = false by rw [h];rfl]
  conv=>whnf
  rw [show IntKind.i64.wrap (0 + 1) = 1 from qas (by decide) (by decide)]
  conv=>whnf
  refine qae hE hS ?_
  conv=>whnf
  rw [if_pos h]
  by_cases h2:y = 0
  ·rw [show (y != 0) = false by rw [h2];rfl]
   conv=>whnf
   rw [show IntKind.i64.wrap (1 + 1) = 2 from qas (by decide) (by decide)]
   conv=>whnf
   refine qae hE hS ?_
   conv=>whnf
   rw [h2]
   exact ⟨_,rfl,Wk.refl _⟩
  ·rw [show (y != 0) = true from bne_iff_ne.2 h2]
   conv=>whnf
   exact ⟨_,rfl,Wk.refl _⟩
 ·rw [show (x != 0) = true from bne_iff_ne.2 h]
  conv=>whnf
  rw [if_neg h]
  exact ⟨_,rfl,Wk.refl _⟩
end
def svs:List (List Int) → List AV
 | [] => []
 |x :: r => sv x :: svs r
theorem qsl:∀ l,Lives noL (svs l)
 | [] => trivial
 |x :: r => ⟨ql7 x,qsl r⟩
abbrev gs (l:List (List Int)) (i:Nat):List Int :=l.getD i []
end Go.Abs.Seat

namespace Go.Abs.Seat
open Go Go.Abs Go.Proofs.Tryz
set_option maxRecDepth 100000
set_option maxHeartbeats 4000000
attribute [local irreducible] IntKind.wrap pEq
def zl (l:List Nat):List Int :=l.map Int.ofNat
theorem qax (l:List Nat):(zl l).length = l.length :=List.length_map _

structure ChN (l:List Nat):Prop where
 hx:∀ i,i < l.length → l.getD i 0 ≤ 50000
 hp:∀ i,1 ≤ i → i < l.length → 1 ≤ l.getD i 0
 h1:1 ≤ l.length ∧ l.length ≤ 24

theorem q0p (l:List Nat) (q:Nat):ivs (zl (l ++ [q])) = ivs (zl l) ++ [nv q] :=by
 induction l with
 |nil => rfl
 |cons x l ih => simp only [List.cons_append,zl,List.map_cons,ivs];exact congrArg _ ih
theorem qnc (l:List Nat) (q c:Nat):AV.lst (ivs (zl l) ++ [nv q]) (l.length + (0 + 1)) (.ch c) = .lst (ivs (zl (l ++ [q]))) (l ++ [q]).length (.ch c) :=by
 rw [q0p,List.length_append];rfl
theorem qnd (l:List Nat) (q:Nat):AObj.chain (l.length + (0 + 1)) 1 3 = .chain (l ++ [q]).length 1 3 :=by
 rw [List.length_append];rfl
theorem qeu:∀ (l:List AV),qeh l l.length = true
 | [] => rfl
 | _ :: r => qeu r
theorem qge (l:List Nat):qeh (ivs (zl l)) (l.length * 1) = true :=by
 have :=qeu (ivs (zl l))
 rw [ivs_len,qax] at this
 rw [Nat.mul_one];exact this
theorem qjj {x y:AV} {r:List AV} (h:Wk x y):Wk (.tup (x :: r)) (.tup (y :: r)) :=by
 intro g w u hu
 obtain ⟨vs,e,h1⟩ :=hu
 obtain ⟨a,bs,e2,h2,h3⟩ :=h1
 exact ⟨vs,e,a,bs,e2,h g w a h2,h3⟩

theorem qo5 {xs:List AV} {n m:Nat} {own:Own} (e:n = m):Wk (.lst xs n own) (.lst xs m .no) :=by
 subst e
 intro g w u hu
 simp only [VRel] at hu ⊢
 obtain ⟨b,off,cap,h1,h2,h3,h4,_⟩ :=hu
 exact ⟨b,off,cap,h1,h2,h3,h4,trivial⟩
theorem qky {T:Tr TypeInfo} {tx e:TypeId} {sz:Nat} {x:AV} {k:List AV → Nat → Plan} {ys l:List AV} {m:Nat} {own:Own} (hT:tyU T tx = some (.slice e)) (hx:x = .lst ys m own) (ht:qdk (m * sz) ys = some l):pSrc T tx sz x k = .chk (qda l) (k l m) :=by
 subst hx
 unfold pSrc
 simp only [hT,ht]
theorem qh9:∀ l:List AV,qdk l.length l = some l
 | [] => rfl
 |x :: r => by rw [List.length_cons,qdk,qh9 r]
end Go.Abs.Seat
/-! Rules: whether they are as defined, and their numbers of teeth. -/
namespace Go.Abs.Seat
noncomputable section
open Go Go.Abs Go.Proofs.Tryz
set_option maxRecDepth 100000
set_option maxHeartbeats 40000000
theorem qq6 (s:Int) (hs:-9223372036854775808 ≤ s ∧ s < 9223372036854775808):decide (0 ≤ IntKind.i64.wrap (s - 1) ∧ IntKind.i64.wrap (s - 1) ≤ 2) = decide (1 ≤ s ∧ s ≤ 3) :=by
 by_cases k:s = -9223372036854775808
 ·subst k;decide
 ·rw [qas (by omega) (by omega)]
  exact decide_eq_decide.2 (by omega)
attribute [local irreducible] IntKind.wrap pEq
def fbad:List Int → Int → Int
 | [],_ => -1
 |x :: r,i => if tth x then fbad r (i + 1) else i
def allT (l:List Int):Prop :=∀ i,i < l.length → tth (gi l i)
instance (l:List Int):Decidable (allT l) :=Classical.propDecidable _
theorem qi7 {x:Int} {r:List Int}:allT (x :: r) ↔ tth x ∧ allT r :=
 ⟨fun h => ⟨h 0 (Nat.succ_pos _),fun i hi => h (i + 1) (by simpa using hi)⟩,fun h i hi => by
  cases i with
  |zero => exact h.1
  |succ i => exact h.2 i (by simpa using hi)⟩
theorem qu2:∀ (l:List Int) (i:Int),0 ≤ i → decide (fbad l i ≥ 0) = !(decide (allT l))
 | [],i,_ => by
  rw [zT (show allT [] from fun _ h => absurd h (Nat.not_lt_zero _))]
  rfl
 |x :: r,i,h => by
  rw [fbad]
  by_cases hx:tth x
  ·rw [if_pos hx,qu2 r (i + 1) (by omega)]
   by_cases hr:allT r
   ·rw [zT hr,zT (qi7.2 ⟨hx,hr⟩)]
   ·rw [zF hr,zF fun k => hr (qi7.1 k).2]
  ·rw [if_neg hx,zT h,zF fun k => hx (qi7.1 k).1];rfl
theorem qrs (a:Int):Pure prog 129 [iv a] (.bool (!(decide (tth a)))) :=by
 refine zA fun S q pc hS hq hC hE => ?_
 conv=>whnf
 refine qab hC (qcb a) ?_
 conv=>whnf
 exact ⟨_,rfl,Wk.refl _⟩
theorem qom (l:List Int) (hl:l.length < 4611686018427387904):Pure prog 154 [nl l,.func (.func 129) [] []] (iv (fbad l 0)) :=by
 have ll :=qd4 l
 refine zA fun S q pc hS hq hC hE => ?_
 conv=>whnf
 refine qbh hE hS (A :=Nat) [0,1,7] (fun i => [(8,nv i)]) (fun _ => []) (fun i => i ≤ l.length ∧ fbad (l.drop i) i = fbad l 0) (fun i => l.length - i) 0 rfl rfl zD ⟨Nat.zero_le _,rfl⟩ ?_
 intro i ⟨hi,he⟩
 conv=>whnf
 by_cases h:i < l.length
 ·rw [show decide (Int.ofNat i < ↑l.length) = true from qch h]
  conv=>whnf
  refine qaa (qaf (i :=i) (n :=l.length) h) ?_
  conv=>whnf
  refine qac (nthP (qa4 (l :=l) (i :=i) h)) ?_
  conv=>whnf
  refine qab hC (qrs (gi l i)) ?_
  conv=>whnf
  rw [qu6 l h,fbad] at he
  by_cases h1:tth (gi l i)
  ·rw [zT h1]
   rw [if_pos h1] at he
   conv=>whnf
   rw [show IntKind.i64.wrap (Int.ofNat i + 1) = Int.ofNat (i + 1) from qa2 (m :=i + 1) (by omega)]
   exact ⟨i + 1,⟨h,he⟩,by omega,zD⟩
  ·rw [zF h1]
   rw [if_neg h1] at he
   conv=>whnf
   rw [← he]
   exact ⟨_,rfl,Wk.refl _⟩
 ·rw [show decide (Int.ofNat i < ↑l.length) = false from qcl h]
  conv=>whnf
  rw [List.drop_eq_nil_of_le (by omega),fbad] at he
  rw [← he]
  exact ⟨_,rfl,Wk.refl _⟩
theorem qon:Pure prog 154 [.nils,.func (.func 129) [] []] (iv (-1)) :=by
 refine zA fun S q pc hS hq hC hE => ?_
 conv=>whnf
 refine qae hE hS ?_
 conv=>whnf
 exact ⟨_,rfl,Wk.refl _⟩
theorem qoo {v:AV} {l:List Int} (h:IL v l) (hl:l.length < 4611686018427387904):Pure prog 128 [v,.func (.func 129) [] []] (.bool (!(decide (allT l)))) :=by
 have lv :=h.no
 rcases h with ⟨rfl,rfl⟩ | rfl
 ·rw [zT (show allT [] from fun _ h => absurd h (Nat.not_lt_zero _))]
  refine zA fun S q pc hS hq hC hE => ?_
  conv=>whnf
  refine qab hC (qon) ?_
  conv=>whnf
  exact ⟨_,rfl,Wk.refl _⟩
 ·refine zA fun S q pc hS hq hC hE => ?_
  conv=>whnf
  refine qab hC (qom l hl) ?_
  conv=>whnf
  rw [qu2 l 0 (Int.le_refl _)]
  exact ⟨_,rfl,Wk.refl _⟩
def fidx:List Int → Int → Int → Int
 | [],_,_ => -1
 |y :: r,x,i => if x = y then i else fidx r x (i + 1)
theorem qur:∀ (l:List Int) (x i:Int),0 ≤ i → decide (fidx l x i ≥ 0) = decide (x ∈ l)
 | [],x,i,_ => by rw [zF (show ¬ x ∈ [] from List.not_mem_nil)];rfl
 |y :: r,x,i,h => by
  rw [fidx]
  by_cases hx:x = y
  ·rw [if_pos hx,zT h,zT (by rw [hx];exact List.mem_cons_self)]
  ·rw [if_neg hx,qur r x (i + 1) (by omega)]
   exact decide_eq_decide.2 ⟨List.mem_cons_of_mem _,fun k => (List.mem_cons.1 k).resolve_left hx⟩
theorem qrt (l:List Int) (x:Int) (hl:l.length < 4611686018427387904):Pure prog 155 [nl l,iv x] (iv (fidx l x 0)) :=by
 have ll :=qd4 l
 refine zA fun S q pc hS hq hC hE => ?_
 conv=>whnf
 refine qbh hE hS (A :=Nat) [0,1,7] (fun i => [(8,nv i)]) (fun _ => []) (fun i => i ≤ l.length ∧ fidx (l.drop i) x i = fidx l x 0) (fun i => l.length - i) 0 rfl rfl zD ⟨Nat.zero_le _,rfl⟩ ?_
 intro i ⟨hi,he⟩
 conv=>whnf
 by_cases h:i < l.length
 ·rw [show decide (Int.ofNat i < ↑l.length) = true from qch h]
  conv=>whnf
  refine qaa (qaf (i :=i) (n :=l.length) h) ?_
  conv=>whnf
  refine qac (nthP (qa4 (l :=l) (i :=i) h)) ?_
  conv=>whnf
  rw [qu6 l h,fidx] at he
  by_cases h1:x = gi l i
  ·rw [show (x == gi l i) = true from beq_iff_eq.2 h1]
   conv=>whnf
   rw [if_pos h1] at he
   rw [← he]
   exact ⟨_,rfl,Wk.refl _⟩
  ·rw [show (x == gi l i) = false from beq_eq_false_iff_ne.2 h1]
   conv=>whnf
   rw [if_neg h1] at he
   rw [show IntKind.i64.wrap (Int.ofNat i + 1) = Int.ofNat (i + 1) from qa2 (m :=i + 1) (by omega)]
   exact ⟨i + 1,⟨h,he⟩,by omega,zD⟩
 ·rw [show decide (Int.ofNat i < ↑l.length) = false from qcl h]
  conv=>whnf
  rw [List.drop_eq_nil_of_le (by omega),fidx] at he
  rw [← he]
  exact ⟨_,rfl,Wk.refl _⟩
theorem qru (x:Int):Pure prog 155 [.nils,iv x] (iv (-1)) :=by
 refine zA fun S q pc hS hq hC hE => ?_
 conv=>whnf
 refine qae hE hS ?_
 conv=>whnf
 exact ⟨_,rfl,Wk.refl _⟩
theorem qlw {v:AV} {l:List Int} (h:IL v l) (hl:l.length < 4611686018427387904) (x:Int):Pure prog 130 [v,iv x] (.bool (decide (x ∈ l))) :=by
 have lv :=h.no
 rcases h with ⟨rfl,rfl⟩ | rfl
 ·rw [zF (show ¬ x ∈ [] from List.not_mem_nil)]
  refine zA fun S q pc hS hq hC hE => ?_
  conv=>whnf
  refine qab hC (qru x) ?_
  conv=>whnf
  exact ⟨_,rfl,Wk.refl _⟩
 ·refine zA fun S q pc hS hq hC hE => ?_
  conv=>whnf
  refine qab hC (qrt l x hl) ?_
  conv=>whnf
  rw [qur l x 0 (Int.le_refl _)]
  exact ⟨_,rfl,Wk.refl _⟩
abbrev rv (a b p s:Int) (N:AV):AV :=.agg [iv a,iv b,iv p,iv s,N]
def rOk (a b p s:Int) (l:List Int):Prop :=tth a ∧ tth b ∧ a ≤ b ∧ (1 ≤ p ∧ p ≤ 3) ∧ (1 ≤ s ∧ s ≤ 3) ∧ l.length ≤ 6 ∧ allT l
theorem qev {N:AV} {l:List Int} (h:IL N l) (hl:l.length < 4611686018427387904) (a b p s:Int) (hs:-9223372036854775808 ≤ s ∧ s < 9223372036854775808) {r:Bool} (hr:r = true ↔ rOk a b p s l) :
  Pure prog 82 [rv a b p s N] (.bool r) :=by
 have lv :=h.no
 have hb :=qoo h hl
 have hw :=qq6 s hs
 have nx:¬ rOk a b p s l → r = false :=fun k => qyf hr k
 have h6:∀ (h1:tth a) (h2:tth b) (h3:a ≤ b) (h4:1 ≤ p ∧ p ≤ 3) (h5:1 ≤ s ∧ s ≤ 3) (h6:l.length ≤ 6),r = decide (allT l) :=fun h1 h2 h3 h4 h5 h6 => by
  by_cases h7:allT l
  ·rw [hr.2 ⟨h1,h2,h3,h4,h5,h6,h7⟩,zT h7]
  ·rw [nx fun k => h7 k.2.2.2.2.2.2,zF h7]
 rcases h with ⟨rfl,rfl⟩ | rfl
 ·refine zA fun S q pc hS hq hC hE => ?_
  conv=>whnf
  refine qab hC (qcb a) ?_
  conv=>whnf
  by_cases h1:tth a
  ·rw [zT h1]
   conv=>whnf
   refine qab hC (qcb b) ?_
   conv=>whnf
   by_cases h2:tth b
   ·rw [zT h2]
    conv=>whnf
    by_cases h3:a ≤ b
    ·rw [zT h3]
     conv=>whnf
     refine qab hC (qcv p 1 3) ?_
     conv=>whnf
     by_cases h4:1 ≤ p ∧ p ≤ 3
     ·rw [zT h4]
      conv=>whnf
      refine qab hC (qcv (IntKind.i64.wrap (s - 1)) 0 2) ?_
      conv=>whnf
      rw [hw]
      by_cases h5:1 ≤ s ∧ s ≤ 3
      ·rw [zT h5]
       conv=>whnf
       refine qab hC (hb) ?_
       conv=>whnf
       rw [h6 h1 h2 h3 h4 h5 (by decide)]
       cases decide (allT [])
       ·conv=>whnf
        exact ⟨_,rfl,Wk.refl _⟩
       ·conv=>whnf
        exact ⟨_,rfl,Wk.refl _⟩
      ·rw [zF h5]
       conv=>whnf
       rw [nx fun k => h5 k.2.2.2.2.1]
       exact ⟨_,rfl,Wk.refl _⟩
     ·rw [zF h4]
      conv=>whnf
      rw [nx fun k => h4 k.2.2.2.1]
      exact ⟨_,rfl,Wk.refl _⟩
    ·rw [zF h3]
     conv=>whnf
     rw [nx fun k => h3 k.2.2.1]
     exact ⟨_,rfl,Wk.refl _⟩
   ·rw [zF h2]
    conv=>whnf
    rw [nx fun k => h2 k.2.1]
    exact ⟨_,rfl,Wk.refl _⟩
  ·rw [zF h1]
   conv=>whnf
   rw [nx fun k => h1 k.1]
   exact ⟨_,rfl,Wk.refl _⟩
 ·refine zA fun S q pc hS hq hC hE => ?_
  conv=>whnf
  refine qab hC (qcb a) ?_
  conv=>whnf
  by_cases h1:tth a
  ·rw [zT h1]
   conv=>whnf
   refine qab hC (qcb b) ?_
   conv=>whnf
   by_cases h2:tth b
   ·rw [zT h2]
    conv=>whnf
    by_cases h3:a ≤ b
    ·rw [zT h3]
     conv=>whnf
     refine qab hC (qcv p 1 3) ?_
     conv=>whnf
     by_cases h4:1 ≤ p ∧ p ≤ 3
     ·rw [zT h4]
      conv=>whnf
      refine qab hC (qcv (IntKind.i64.wrap (s - 1)) 0 2) ?_
      conv=>whnf
      rw [hw]
      by_cases h5:1 ≤ s ∧ s ≤ 3
      ·rw [zT h5]
       conv=>whnf
       by_cases h7:l.length ≤ 6
       ·rw [zT (show (l.length:Int) ≤ 6 by omega)]
        conv=>whnf
        refine qab hC (hb) ?_
        conv=>whnf
        rw [h6 h1 h2 h3 h4 h5 h7]
        cases decide (allT l)
        ·conv=>whnf
         exact ⟨_,rfl,Wk.refl _⟩
        ·conv=>whnf
         exact ⟨_,rfl,Wk.refl _⟩
       ·rw [zF (show ¬ (l.length:Int) ≤ 6 by omega)]
        conv=>whnf
        rw [nx fun k => h7 k.2.2.2.2.2.1]
        exact ⟨_,rfl,Wk.refl _⟩
      ·rw [zF h5]
       conv=>whnf
       rw [nx fun k => h5 k.2.2.2.2.1]
       exact ⟨_,rfl,Wk.refl _⟩
     ·rw [zF h4]
      conv=>whnf
      rw [nx fun k => h4 k.2.2.2.1]
      exact ⟨_,rfl,Wk.refl _⟩
    ·rw [zF h3]
     conv=>whnf
     rw [nx fun k => h3 k.2.2.1]
     exact ⟨_,rfl,Wk.refl _⟩
   ·rw [zF h2]
    conv=>whnf
    rw [nx fun k => h2 k.2.1]
    exact ⟨_,rfl,Wk.refl _⟩
  ·rw [zF h1]
   conv=>whnf
   rw [nx fun k => h1 k.1]
   exact ⟨_,rfl,Wk.refl _⟩
end
end Go.Abs.Seat

namespace Go.Abs.Seat
open Go Go.Abs Go.Proofs.Tryz
set_option maxRecDepth 100000
set_option maxHeartbeats 4000000
attribute [local irreducible] IntKind.wrap pEq
abbrev sl (l:List (List Int)):AV :=.lst (svs l) l.length .no
theorem qco (x:List Int):x = [] ∧ sv x = .nils ∨ sv x = nl x :=by
 cases x with
 |nil => exact .inl ⟨rfl,rfl⟩
 |cons _ _ => exact .inr rfl
end Go.Abs.Seat
