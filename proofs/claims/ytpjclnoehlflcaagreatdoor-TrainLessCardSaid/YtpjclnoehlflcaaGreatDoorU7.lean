/-
  What a train turns its hand by.
  Lists of pairs as arguments: trains, and what is none.
  Which one of two trains is nearer.
  By how much a hand is off, and for how long it lasts: parts.
  By how much a hand is off: rounded towards 0, down and up.
  The law TrainNearers.
  Off, Lasts, Between: the program's and the document's.
  The law TrainOffs.
  Feasts and settings: lists of numbers.
  Hands that are set: whether they are kept, and where they are.
  The best of some settings.
  Chains as fractions.
  The fraction of a chain: Fold.
  The fraction of a chain: the document's.
  Where a hand that is set is.
  Chains of fractions.
  Lists held against each other; a chain's fraction has that chain.
  The document's chain.
  Rules: whether they are as defined, and their numbers of teeth.
  The best of some settings.
-/
import Derived.Test.YtpjclnoehlflcaaGreatDoorT2
import Derived.Test.YtpjclnoehlflcaaGreatDoorU4
/-! What a train turns its hand by. -/
namespace Go.Abs.Seat
open Go Go.Abs Go.Proofs.Tryz
set_option maxRecDepth 100000
set_option maxHeartbeats 4000000
attribute [local irreducible] IntKind.wrap pEq
theorem mul1N {a:Nat} (h:a < 9223372036854775808):IntKind.i64.wrap (1 * Int.ofNat a) = Int.ofNat (1 * a) :=mulN (a :=1) (b :=a) (by omega)
theorem product1 (a0:Nat) (h0:a0 ≤ 60):Pure prog 127 [.lst [nv a0] 1 .no] (nv (1 * a0)) :=by
 refine pure_sym hE rfl ⟨⟨⟨trivial,trivial⟩,fun _ h => nomatch h⟩,trivial⟩ trivial fun S q pc hS hq hC hE => ?_
 conv=>whnf
 refine sym_unroll hE hS ?_
 conv=>whnf
 rw [show IntKind.i64.wrap (0 + 1) = 1 from wrapI (by decide) (by decide),mul1N (a :=a0) (by omega)]
 refine sym_unroll hE hS ?_
 conv=>whnf
 exact ⟨_,rfl,Wk.refl _⟩
theorem product2 (a0 a1:Nat) (h0:a0 ≤ 60) (h1:a1 ≤ 60):Pure prog 127 [.lst [nv a0,nv a1] 2 .no] (nv (1 * a0 * a1)) :=by
 refine pure_sym hE rfl ⟨⟨⟨trivial,trivial,trivial⟩,fun _ h => nomatch h⟩,trivial⟩ trivial fun S q pc hS hq hC hE => ?_
 have q1:1 * a0 * a1 ≤ 60 * 60 :=Nat.mul_le_mul (show 1 * a0 ≤ 60 by omega) (by omega)
 conv=>whnf
 refine sym_unroll hE hS ?_
 conv=>whnf
 rw [show IntKind.i64.wrap (0 + 1) = 1 from wrapI (by decide) (by decide),mul1N (a :=a0) (by omega)]
 refine sym_unroll hE hS ?_
 conv=>whnf
 rw [show IntKind.i64.wrap (1 + 1) = 2 from wrapI (by decide) (by decide),mulN (a :=1 * a0) (b :=a1) (by omega)]
 refine sym_unroll hE hS ?_
 conv=>whnf
 exact ⟨_,rfl,Wk.refl _⟩
theorem product3 (a0 a1 a2:Nat) (h0:a0 ≤ 60) (h1:a1 ≤ 60) (h2:a2 ≤ 60):Pure prog 127 [.lst [nv a0,nv a1,nv a2] 3 .no] (nv (1 * a0 * a1 * a2)) :=by
 refine pure_sym hE rfl ⟨⟨⟨trivial,trivial,trivial,trivial⟩,fun _ h => nomatch h⟩,trivial⟩ trivial fun S q pc hS hq hC hE => ?_
 have q1:1 * a0 * a1 ≤ 60 * 60 :=Nat.mul_le_mul (show 1 * a0 ≤ 60 by omega) (by omega)
 have q2:1 * a0 * a1 * a2 ≤ 3600 * 60 :=Nat.mul_le_mul (show 1 * a0 * a1 ≤ 3600 by omega) (by omega)
 conv=>whnf
 refine sym_unroll hE hS ?_
 conv=>whnf
 rw [show IntKind.i64.wrap (0 + 1) = 1 from wrapI (by decide) (by decide),mul1N (a :=a0) (by omega)]
 refine sym_unroll hE hS ?_
 conv=>whnf
 rw [show IntKind.i64.wrap (1 + 1) = 2 from wrapI (by decide) (by decide),mulN (a :=1 * a0) (b :=a1) (by omega)]
 refine sym_unroll hE hS ?_
 conv=>whnf
 rw [show IntKind.i64.wrap (2 + 1) = 3 from wrapI (by decide) (by decide),mulN (a :=1 * a0 * a1) (b :=a2) (by omega)]
 refine sym_unroll hE hS ?_
 conv=>whnf
 exact ⟨_,rfl,Wk.refl _⟩
theorem turns1 (a0 b0:Nat) (h0:(1 ≤ a0 ∧ a0 ≤ 60) ∧ (1 ≤ b0 ∧ b0 ≤ 60)):Pure prog 81 [.lst [nv a0,nv b0] 1 .no] (fv (Int.ofNat ((1 * a0) / Nat.gcd (1 * a0) (1 * b0))) (Int.ofNat ((1 * b0) / Nat.gcd (1 * a0) (1 * b0)))) :=by
 refine pure_sym hE rfl ⟨⟨⟨trivial,trivial,trivial⟩,fun _ h => nomatch h⟩,trivial⟩ ⟨trivial,trivial,trivial⟩ fun S q pc hS hq hC hE => ?_
 have hp:1 ≤ 1 * b0 :=by
  omega
 conv=>whnf
 refine sym_unroll hE hS ?_
 conv=>whnf
 refine sym_drawn hS (by kernel_rfl) ?_
 conv=>whnf
 rw [show IntKind.i64.wrap (0 + 1) = 1 from wrapI (by decide) (by decide)]
 refine sym_unroll hE hS ?_
 conv=>whnf
 refine sym_pureW hC (product1 a0 h0.1.2) ?_
 conv=>whnf
 refine sym_pureW hC (product1 b0 h0.2.2) ?_
 conv=>whnf
 refine sym_pure hC (reduced_pure (1 * a0) (1 * b0) (by omega) (by omega) hp) ?_
 conv=>whnf
 exact ⟨_,rfl,Wk.refl _⟩
theorem rTurns1 (a0 b0:Nat) (h0:(1 ≤ a0 ∧ a0 ≤ 60) ∧ (1 ≤ b0 ∧ b0 ≤ 60)):Pure prog 40 [.lst [nv a0,nv b0] 1 .no] (fv (Int.ofNat ((1 * a0) / Nat.gcd (1 * a0) (1 * b0))) (Int.ofNat ((1 * b0) / Nat.gcd (1 * a0) (1 * b0)))) :=by
 refine pure_sym hE rfl ⟨⟨⟨trivial,trivial,trivial⟩,fun _ h => nomatch h⟩,trivial⟩ ⟨trivial,trivial,trivial⟩ fun S q pc hS hq hC hE => ?_
 have hp:1 ≤ 1 * b0 :=by
  omega
 conv=>whnf
 refine sym_unroll hE hS ?_
 conv=>whnf
 refine sym_drawn hS (by kernel_rfl) ?_
 conv=>whnf
 rw [show IntKind.i64.wrap (0 + 1) = 1 from wrapI (by decide) (by decide),mul1N (a :=a0) (by omega),mul1N (a :=b0) (by omega)]
 refine sym_unroll hE hS ?_
 conv=>whnf
 refine sym_pure hC (rReduced_pure (1 * a0) (1 * b0) (by omega) (by omega) hp) ?_
 conv=>whnf
 exact ⟨_,rfl,Wk.refl _⟩
theorem turns2 (a0 b0 a1 b1:Nat) (h0:(1 ≤ a0 ∧ a0 ≤ 60) ∧ (1 ≤ b0 ∧ b0 ≤ 60)) (h1:(1 ≤ a1 ∧ a1 ≤ 60) ∧ (1 ≤ b1 ∧ b1 ≤ 60)):Pure prog 81 [.lst [nv a0,nv b0,nv a1,nv b1] 2 .no] (fv (Int.ofNat ((1 * a0 * a1) / Nat.gcd (1 * a0 * a1) (1 * b0 * b1))) (Int.ofNat ((1 * b0 * b1) / Nat.gcd (1 * a0 * a1) (1 * b0 * b1)))) :=by
 refine pure_sym hE rfl ⟨⟨⟨trivial,trivial,trivial,trivial,trivial⟩,fun _ h => nomatch h⟩,trivial⟩ ⟨trivial,trivial,trivial⟩ fun S q pc hS hq hC hE => ?_
 have q1:1 * a0 * a1 ≤ 60 * 60 :=Nat.mul_le_mul (show 1 * a0 ≤ 60 by omega) (by omega)
 have p1:1 * b0 * b1 ≤ 60 * 60 :=Nat.mul_le_mul (show 1 * b0 ≤ 60 by omega) (by omega)
 have hp:1 ≤ 1 * b0 * b1 :=by
  have r1:1 ≤ 1 * b0 * b1 :=Nat.mul_pos (show 0 < 1 * b0 by omega) (by omega)
  omega
 conv=>whnf
 refine sym_unroll hE hS ?_
 conv=>whnf
 refine sym_drawn hS (by kernel_rfl) ?_
 conv=>whnf
 rw [show IntKind.i64.wrap (0 + 1) = 1 from wrapI (by decide) (by decide)]
 refine sym_unroll hE hS ?_
 conv=>whnf
 refine sym_drawn hS (by kernel_rfl) ?_
 conv=>whnf
 rw [show IntKind.i64.wrap (1 + 1) = 2 from wrapI (by decide) (by decide)]
 refine sym_unroll hE hS ?_
 conv=>whnf
 refine sym_pureW hC (product2 a0 a1 h0.1.2 h1.1.2) ?_
 conv=>whnf
 refine sym_pureW hC (product2 b0 b1 h0.2.2 h1.2.2) ?_
 conv=>whnf
 refine sym_pure hC (reduced_pure (1 * a0 * a1) (1 * b0 * b1) (by omega) (by omega) hp) ?_
 conv=>whnf
 exact ⟨_,rfl,Wk.refl _⟩
theorem rTurns2 (a0 b0 a1 b1:Nat) (h0:(1 ≤ a0 ∧ a0 ≤ 60) ∧ (1 ≤ b0 ∧ b0 ≤ 60)) (h1:(1 ≤ a1 ∧ a1 ≤ 60) ∧ (1 ≤ b1 ∧ b1 ≤ 60)):Pure prog 40 [.lst [nv a0,nv b0,nv a1,nv b1] 2 .no] (fv (Int.ofNat ((1 * a0 * a1) / Nat.gcd (1 * a0 * a1) (1 * b0 * b1))) (Int.ofNat ((1 * b0 * b1) / Nat.gcd (1 * a0 * a1) (1 * b0 * b1)))) :=by
 refine pure_sym hE rfl ⟨⟨⟨trivial,trivial,trivial,trivial,trivial⟩,fun _ h => nomatch h⟩,trivial⟩ ⟨trivial,trivial,trivial⟩ fun S q pc hS hq hC hE => ?_
 have q1:1 * a0 * a1 ≤ 60 * 60 :=Nat.mul_le_mul (show 1 * a0 ≤ 60 by omega) (by omega)
 have p1:1 * b0 * b1 ≤ 60 * 60 :=Nat.mul_le_mul (show 1 * b0 ≤ 60 by omega) (by omega)
 have hp:1 ≤ 1 * b0 * b1 :=by
  have r1:1 ≤ 1 * b0 * b1 :=Nat.mul_pos (show 0 < 1 * b0 by omega) (by omega)
  omega
 conv=>whnf
 refine sym_unroll hE hS ?_
 conv=>whnf
 refine sym_drawn hS (by kernel_rfl) ?_
 conv=>whnf
 rw [show IntKind.i64.wrap (0 + 1) = 1 from wrapI (by decide) (by decide),mul1N (a :=a0) (by omega),mul1N (a :=b0) (by omega)]
 refine sym_unroll hE hS ?_
 conv=>whnf
 refine sym_drawn hS (by kernel_rfl) ?_
 conv=>whnf
 rw [show IntKind.i64.wrap (1 + 1) = 2 from wrapI (by decide) (by decide),mulN (a :=1 * a0) (b :=a1) (by omega),mulN (a :=1 * b0) (b :=b1) (by omega)]
 refine sym_unroll hE hS ?_
 conv=>whnf
 refine sym_pure hC (rReduced_pure (1 * a0 * a1) (1 * b0 * b1) (by omega) (by omega) hp) ?_
 conv=>whnf
 exact ⟨_,rfl,Wk.refl _⟩
theorem turns3 (a0 b0 a1 b1 a2 b2:Nat) (h0:(1 ≤ a0 ∧ a0 ≤ 60) ∧ (1 ≤ b0 ∧ b0 ≤ 60)) (h1:(1 ≤ a1 ∧ a1 ≤ 60) ∧ (1 ≤ b1 ∧ b1 ≤ 60)) (h2:(1 ≤ a2 ∧ a2 ≤ 60) ∧ (1 ≤ b2 ∧ b2 ≤ 60)):Pure prog 81 [.lst [nv a0,nv b0,nv a1,nv b1,nv a2,nv b2] 3 .no] (fv (Int.ofNat ((1 * a0 * a1 * a2) / Nat.gcd (1 * a0 * a1 * a2) (1 * b0 * b1 * b2))) (Int.ofNat ((1 * b0 * b1 * b2) / Nat.gcd (1 * a0 * a1 * a2) (1 * b0 * b1 * b2)))) :=by
 refine pure_sym hE rfl ⟨⟨⟨trivial,trivial,trivial,trivial,trivial,trivial,trivial⟩,fun _ h => nomatch h⟩,trivial⟩ ⟨trivial,trivial,trivial⟩ fun S q pc hS hq hC hE => ?_
 have q1:1 * a0 * a1 ≤ 60 * 60 :=Nat.mul_le_mul (show 1 * a0 ≤ 60 by omega) (by omega)
 have q2:1 * a0 * a1 * a2 ≤ 3600 * 60 :=Nat.mul_le_mul (show 1 * a0 * a1 ≤ 3600 by omega) (by omega)
 have p1:1 * b0 * b1 ≤ 60 * 60 :=Nat.mul_le_mul (show 1 * b0 ≤ 60 by omega) (by omega)
 have p2:1 * b0 * b1 * b2 ≤ 3600 * 60 :=Nat.mul_le_mul (show 1 * b0 * b1 ≤ 3600 by omega) (by omega)
 have hp:1 ≤ 1 * b0 * b1 * b2 :=by
  have r1:1 ≤ 1 * b0 * b1 :=Nat.mul_pos (show 0 < 1 * b0 by omega) (by omega)
  have r2:1 ≤ 1 * b0 * b1 * b2 :=Nat.mul_pos (show 0 < 1 * b0 * b1 by omega) (by omega)
  omega
 conv=>whnf
 refine sym_unroll hE hS ?_
 conv=>whnf
 refine sym_drawn hS (by kernel_rfl) ?_
 conv=>whnf
 rw [show IntKind.i64.wrap (0 + 1) = 1 from wrapI (by decide) (by decide)]
 refine sym_unroll hE hS ?_
 conv=>whnf
 refine sym_drawn hS (by kernel_rfl) ?_
 conv=>whnf
 rw [show IntKind.i64.wrap (1 + 1) = 2 from wrapI (by decide) (by decide)]
 refine sym_unroll hE hS ?_
 conv=>whnf
 refine sym_drawn hS (by kernel_rfl) ?_
 conv=>whnf
 rw [show IntKind.i64.wrap (2 + 1) = 3 from wrapI (by decide) (by decide)]
 refine sym_unroll hE hS ?_
 conv=>whnf
 refine sym_pureW hC (product3 a0 a1 a2 h0.1.2 h1.1.2 h2.1.2) ?_
 conv=>whnf
 refine sym_pureW hC (product3 b0 b1 b2 h0.2.2 h1.2.2 h2.2.2) ?_
 conv=>whnf
 refine sym_pure hC (reduced_pure (1 * a0 * a1 * a2) (1 * b0 * b1 * b2) (by omega) (by omega) hp) ?_
 conv=>whnf
 exact ⟨_,rfl,Wk.refl _⟩
theorem rTurns3 (a0 b0 a1 b1 a2 b2:Nat) (h0:(1 ≤ a0 ∧ a0 ≤ 60) ∧ (1 ≤ b0 ∧ b0 ≤ 60)) (h1:(1 ≤ a1 ∧ a1 ≤ 60) ∧ (1 ≤ b1 ∧ b1 ≤ 60)) (h2:(1 ≤ a2 ∧ a2 ≤ 60) ∧ (1 ≤ b2 ∧ b2 ≤ 60)):Pure prog 40 [.lst [nv a0,nv b0,nv a1,nv b1,nv a2,nv b2] 3 .no] (fv (Int.ofNat ((1 * a0 * a1 * a2) / Nat.gcd (1 * a0 * a1 * a2) (1 * b0 * b1 * b2))) (Int.ofNat ((1 * b0 * b1 * b2) / Nat.gcd (1 * a0 * a1 * a2) (1 * b0 * b1 * b2)))) :=by
 refine pure_sym hE rfl ⟨⟨⟨trivial,trivial,trivial,trivial,trivial,trivial,trivial⟩,fun _ h => nomatch h⟩,trivial⟩ ⟨trivial,trivial,trivial⟩ fun S q pc hS hq hC hE => ?_
 have q1:1 * a0 * a1 ≤ 60 * 60 :=Nat.mul_le_mul (show 1 * a0 ≤ 60 by omega) (by omega)
 have q2:1 * a0 * a1 * a2 ≤ 3600 * 60 :=Nat.mul_le_mul (show 1 * a0 * a1 ≤ 3600 by omega) (by omega)
 have p1:1 * b0 * b1 ≤ 60 * 60 :=Nat.mul_le_mul (show 1 * b0 ≤ 60 by omega) (by omega)
 have p2:1 * b0 * b1 * b2 ≤ 3600 * 60 :=Nat.mul_le_mul (show 1 * b0 * b1 ≤ 3600 by omega) (by omega)
 have hp:1 ≤ 1 * b0 * b1 * b2 :=by
  have r1:1 ≤ 1 * b0 * b1 :=Nat.mul_pos (show 0 < 1 * b0 by omega) (by omega)
  have r2:1 ≤ 1 * b0 * b1 * b2 :=Nat.mul_pos (show 0 < 1 * b0 * b1 by omega) (by omega)
  omega
 conv=>whnf
 refine sym_unroll hE hS ?_
 conv=>whnf
 refine sym_drawn hS (by kernel_rfl) ?_
 conv=>whnf
 rw [show IntKind.i64.wrap (0 + 1) = 1 from wrapI (by decide) (by decide),mul1N (a :=a0) (by omega),mul1N (a :=b0) (by omega)]
 refine sym_unroll hE hS ?_
 conv=>whnf
 refine sym_drawn hS (by kernel_rfl) ?_
 conv=>whnf
 rw [show IntKind.i64.wrap (1 + 1) = 2 from wrapI (by decide) (by decide),mulN (a :=1 * a0) (b :=a1) (by omega),mulN (a :=1 * b0) (b :=b1) (by omega)]
 refine sym_unroll hE hS ?_
 conv=>whnf
 refine sym_drawn hS (by kernel_rfl) ?_
 conv=>whnf
 rw [show IntKind.i64.wrap (2 + 1) = 3 from wrapI (by decide) (by decide),mulN (a :=1 * a0 * a1) (b :=a2) (by omega),mulN (a :=1 * b0 * b1) (b :=b2) (by omega)]
 refine sym_unroll hE hS ?_
 conv=>whnf
 refine sym_pure hC (rReduced_pure (1 * a0 * a1 * a2) (1 * b0 * b1 * b2) (by omega) (by omega) hp) ?_
 conv=>whnf
 exact ⟨_,rfl,Wk.refl _⟩
end Go.Abs.Seat

/-! Lists of pairs as arguments: trains, and what is none. -/
namespace Go.Abs.Seat
open Go Go.Abs Go.Proofs.Tryz
set_option maxRecDepth 100000
set_option maxHeartbeats 4000000
attribute [local irreducible] IntKind.wrap pEq
def flat:List (Int × Int) → List AV
 | [] => []
 |p :: r => iv p.1 :: iv p.2 :: flat r
abbrev pv (l:List (Int × Int)):AV :=.lst (flat l) l.length .no
theorem flat_len:∀ l,(flat l).length = l.length * 2
 | [] => rfl
 |p :: r => by simp only [flat,List.length_cons,flat_len r];omega
theorem flat_no:∀ l,Lives noL (flat l)
 | [] => trivial
 | _ :: r => ⟨trivial,trivial,flat_no r⟩
theorem pv_no (l:List (Int × Int)):Live noL (pv l) :=⟨flat_no l,fun _ h => nomatch h⟩
structure TV (v:AV) (k x y:Nat):Prop where
 sh:∃ xs,v = .lst xs k .no ∧ Lives noL xs
 k1:1 ≤ k ∧ k ≤ 3
 isT:Pure prog 63 [v] (.bool true)
 rT:Pure prog 18 [v] (.bool true)
 tu:Pure prog 81 [v] (fv (Int.ofNat x) (Int.ofNat y))
 rtu:Pure prog 40 [v] (fv (Int.ofNat x) (Int.ofNat y))
 bx:1 ≤ x ∧ x ≤ 216000
 by_:1 ≤ y ∧ y ≤ 216000
 g:Nat.gcd x y = 1
structure TN (v:AV) (k:Nat):Prop where
 sh:v = .nils ∧ k = 0 ∨ ∃ xs,v = .lst xs k .no ∧ Lives noL xs
 isT:Pure prog 63 [v] (.bool false)
 rT:k ≤ 8 → Pure prog 18 [v] (.bool false)
theorem isTrain_nils:Pure prog 63 [.nils] (.bool false) :=by
 refine pure_sym hE rfl ⟨trivial,trivial⟩ trivial fun S q pc hS hq hC hE => ?_
 conv=>whnf
 refine sym_pure hC (in_pure 0 1 3) ?_
 conv=>whnf
 exact ⟨_,rfl,Wk.refl _⟩
theorem rTrain_nils:Pure prog 18 [.nils] (.bool false) :=by
 refine pure_sym hE rfl ⟨trivial,trivial⟩ trivial fun S q pc hS hq hC hE => ?_
 conv=>whnf
 refine sym_unroll hE hS ?_
 conv=>whnf
 refine sym_pure hC (rin_pure 0 1 3) ?_
 conv=>whnf
 exact ⟨_,rfl,Wk.refl _⟩
theorem isTrain_out (xs:List AV) (k:Nat) (hl:Lives noL xs) (h:¬ (1 ≤ k ∧ k ≤ 3)):Pure prog 63 [.lst xs k .no] (.bool false) :=by
 refine pure_sym hE rfl ⟨⟨hl,fun _ h => nomatch h⟩,trivial⟩ trivial fun S q pc hS hq hC hE => ?_
 conv=>whnf
 refine sym_pure hC (in_pure _ 1 3) ?_
 rw [zF (show ¬ ((1:Int) ≤ ((k:Nat):Int) ∧ ((k:Nat):Int) ≤ 3) by omega)]
 conv=>whnf
 exact ⟨_,rfl,Wk.refl _⟩
theorem tn_nils:TN .nils 0 :=⟨.inl ⟨rfl,rfl⟩,isTrain_nils,fun _ => rTrain_nils⟩
theorem tth_nat {a b:Int} (h:tth a ∧ tth b):∃ x y:Nat,a = Int.ofNat x ∧ b = Int.ofNat y ∧ ((1 ≤ x ∧ x ≤ 60) ∧ (1 ≤ y ∧ y ≤ 60)) :=by
 obtain ⟨⟨h1,h2⟩,h3,h4⟩ :=h
 refine ⟨a.toNat,b.toNat,?_,?_,?_⟩
 ·show a = ((a.toNat:Nat):Int);omega
 ·show b = ((b.toNat:Nat):Int);omega
 ·omega
theorem red_le {a b:Nat} (ha:1 ≤ a ∧ a ≤ 216000) (hb:1 ≤ b ∧ b ≤ 216000) :
  (1 ≤ a / Nat.gcd a b ∧ a / Nat.gcd a b ≤ 216000) ∧ (1 ≤ b / Nat.gcd a b ∧ b / Nat.gcd a b ≤ 216000) ∧ Nat.gcd (a / Nat.gcd a b) (b / Nat.gcd a b) = 1 :=by
 have hg:1 ≤ Nat.gcd a b :=gcd_pos_r hb.1
 have h1:Nat.gcd a b ≤ a :=Nat.le_of_dvd (by omega) (Nat.gcd_dvd_left a b)
 have h2:Nat.gcd a b ≤ b :=Nat.le_of_dvd (by omega) (Nat.gcd_dvd_right a b)
 have h3 :=red_gcd (n :=a) hb.1
 have h4:a / Nat.gcd a b ≤ a :=Nat.div_le_self _ _
 have h5:b / Nat.gcd a b ≤ b :=Nat.div_le_self _ _
 have h6:1 ≤ a / Nat.gcd a b :=Nat.div_pos h1 (by omega)
 exact ⟨⟨h6,by omega⟩,⟨h3.2,by omega⟩,h3.1⟩
theorem train_or (l:List (Int × Int)):(∃ x y,TV (pv l) l.length x y) ∨ TN (pv l) l.length :=by
 by_cases hk:1 ≤ l.length ∧ l.length ≤ 3
 ·match l,hk with
  | [(a0,b0)],_ =>
   by_cases hg:gd [(a0,b0)]
   ·left
    have i :=isTrain1 a0 b0
    have r :=rTrain1 a0 b0
    rw [zT hg] at i r
    obtain ⟨x0,y0,rfl,rfl,h0⟩ :=tth_nat hg.1
    have b :=red_le (a :=1 * x0) (b :=1 * y0) (by omega) (by omega)
    exact ⟨_,_,⟨_,rfl,flat_no _⟩,⟨Nat.le_of_ble_eq_true rfl,Nat.le_of_ble_eq_true rfl⟩,i,r,turns1 x0 y0 h0,rTurns1 x0 y0 h0,b.1,b.2.1,b.2.2⟩
   ·right
    have i :=isTrain1 a0 b0
    have r :=rTrain1 a0 b0
    rw [zF hg] at i r
    exact ⟨.inr ⟨_,rfl,flat_no _⟩,i,fun _ => r⟩
  | [(a0,b0),(a1,b1)],_ =>
   by_cases hg:gd [(a0,b0),(a1,b1)]
   ·left
    have i :=isTrain2 a0 b0 a1 b1
    have r :=rTrain2 a0 b0 a1 b1
    rw [zT hg] at i r
    obtain ⟨x0,y0,rfl,rfl,h0⟩ :=tth_nat hg.1
    obtain ⟨x1,y1,rfl,rfl,h1⟩ :=tth_nat hg.2.1
    have q1:1 * x0 * x1 ≤ 60 * 60 :=Nat.mul_le_mul (show 1 * x0 ≤ 60 by omega) (by omega)
    have q2:1 * y0 * y1 ≤ 60 * 60 :=Nat.mul_le_mul (show 1 * y0 ≤ 60 by omega) (by omega)
    have p1:1 ≤ 1 * x0 * x1 :=Nat.mul_pos (show 0 < 1 * x0 by omega) (by omega)
    have p2:1 ≤ 1 * y0 * y1 :=Nat.mul_pos (show 0 < 1 * y0 by omega) (by omega)
    have b :=red_le (a :=1 * x0 * x1) (b :=1 * y0 * y1) (by omega) (by omega)
    exact ⟨_,_,⟨_,rfl,flat_no _⟩,⟨Nat.le_of_ble_eq_true rfl,Nat.le_of_ble_eq_true rfl⟩,i,r,turns2 x0 y0 x1 y1 h0 h1,rTurns2 x0 y0 x1 y1 h0 h1,b.1,b.2.1,b.2.2⟩
   ·right
    have i :=isTrain2 a0 b0 a1 b1
    have r :=rTrain2 a0 b0 a1 b1
    rw [zF hg] at i r
    exact ⟨.inr ⟨_,rfl,flat_no _⟩,i,fun _ => r⟩
  | [(a0,b0),(a1,b1),(a2,b2)],_ =>
   by_cases hg:gd [(a0,b0),(a1,b1),(a2,b2)]
   ·left
    have i :=isTrain3 a0 b0 a1 b1 a2 b2
    have r :=rTrain3 a0 b0 a1 b1 a2 b2
    rw [zT hg] at i r
    obtain ⟨x0,y0,rfl,rfl,h0⟩ :=tth_nat hg.1
    obtain ⟨x1,y1,rfl,rfl,h1⟩ :=tth_nat hg.2.1
    obtain ⟨x2,y2,rfl,rfl,h2⟩ :=tth_nat hg.2.2.1
    have q1:1 * x0 * x1 ≤ 60 * 60 :=Nat.mul_le_mul (show 1 * x0 ≤ 60 by omega) (by omega)
    have q2:1 * y0 * y1 ≤ 60 * 60 :=Nat.mul_le_mul (show 1 * y0 ≤ 60 by omega) (by omega)
    have q3:1 * x0 * x1 * x2 ≤ 60 * 60 * 60 :=Nat.mul_le_mul q1 (by omega)
    have q4:1 * y0 * y1 * y2 ≤ 60 * 60 * 60 :=Nat.mul_le_mul q2 (by omega)
    have p1:1 ≤ 1 * x0 * x1 :=Nat.mul_pos (show 0 < 1 * x0 by omega) (by omega)
    have p2:1 ≤ 1 * y0 * y1 :=Nat.mul_pos (show 0 < 1 * y0 by omega) (by omega)
    have p3:1 ≤ 1 * x0 * x1 * x2 :=Nat.mul_pos p1 (by omega)
    have p4:1 ≤ 1 * y0 * y1 * y2 :=Nat.mul_pos p2 (by omega)
    have b :=red_le (a :=1 * x0 * x1 * x2) (b :=1 * y0 * y1 * y2) (by omega) (by omega)
    exact ⟨_,_,⟨_,rfl,flat_no _⟩,⟨Nat.le_of_ble_eq_true rfl,Nat.le_of_ble_eq_true rfl⟩,i,r,turns3 x0 y0 x1 y1 x2 y2 h0 h1 h2,rTurns3 x0 y0 x1 y1 x2 y2 h0 h1 h2,b.1,b.2.1,b.2.2⟩
   ·right
    have i :=isTrain3 a0 b0 a1 b1 a2 b2
    have r :=rTrain3 a0 b0 a1 b1 a2 b2
    rw [zF hg] at i r
    exact ⟨.inr ⟨_,rfl,flat_no _⟩,i,fun _ => r⟩
 ·right
  refine ⟨.inr ⟨_,rfl,flat_no _⟩,isTrain_out _ _ (flat_no l) hk,fun h8 => ?_⟩
  match l,h8 with
  | [],_ => exact rTrain0
  | [_],_ => exact absurd ⟨Nat.le_of_ble_eq_true rfl,Nat.le_of_ble_eq_true rfl⟩ hk
  | [_,_],_ => exact absurd ⟨Nat.le_of_ble_eq_true rfl,Nat.le_of_ble_eq_true rfl⟩ hk
  | [_,_,_],_ => exact absurd ⟨Nat.le_of_ble_eq_true rfl,Nat.le_of_ble_eq_true rfl⟩ hk
  | [(a0,b0),(a1,b1),(a2,b2),(a3,b3)],_ => exact rTrain4 ..
  | [(a0,b0),(a1,b1),(a2,b2),(a3,b3),(a4,b4)],_ => exact rTrain5 ..
  | [(a0,b0),(a1,b1),(a2,b2),(a3,b3),(a4,b4),(a5,b5)],_ => exact rTrain6 ..
  | [(a0,b0),(a1,b1),(a2,b2),(a3,b3),(a4,b4),(a5,b5),(a6,b6)],_ => exact rTrain7 ..
  | [(a0,b0),(a1,b1),(a2,b2),(a3,b3),(a4,b4),(a5,b5),(a6,b6),(a7,b7)],_ => exact rTrain8 ..
  | _ :: _ :: _ :: _ :: _ :: _ :: _ :: _ :: _ :: _,h8 => simp only [List.length_cons] at h8;omega
end Go.Abs.Seat

/-! Which one of two trains is nearer. -/
namespace Go.Abs.Seat
open Go Go.Abs Go.Proofs.Tryz
set_option maxRecDepth 100000
set_option maxHeartbeats 4000000
attribute [local irreducible] IntKind.wrap pEq
theorem maxI_neg {a b:Nat} (h1:a < 4611686018427387904) (h2:b < 4611686018427387904) :
  maxI (Int.ofNat a - Int.ofNat b) (IntKind.i64.wrap (0 - (Int.ofNat a - Int.ofNat b))) = Int.ofNat (gapN a b) :=by
 rw [wrapI (by show _ ≤ (0:Int) - ((a:Int) - (b:Int));omega) (by show (0:Int) - ((a:Int) - (b:Int)) < _;omega)]
 unfold maxI gapN
 show (if (0:Int) - ((a:Int) - (b:Int)) > (a:Int) - (b:Int) then (0:Int) - ((a:Int) - (b:Int)) else (a:Int) - (b:Int)) = (((a - b) + (b - a):Nat):Int)
 split <;> omega
theorem distance_pure (x y n d:Nat) (h1:x * d < 4611686018427387904) (h2:n * y < 4611686018427387904) :
  Pure prog 101 [fv (Int.ofNat x) (Int.ofNat y),fv (Int.ofNat n) (Int.ofNat d)] (fv (Int.ofNat (gapN (x * d) (n * y))) (Int.ofNat y)) :=by
 refine pure_sym hE rfl ⟨⟨trivial,trivial,trivial⟩,⟨trivial,trivial,trivial⟩,trivial⟩ ⟨trivial,trivial,trivial⟩ fun S q pc hS hq hC hE => ?_
 conv=>whnf
 refine sym_pure hC (compare_pure x y n d h1 h2) ?_
 conv=>whnf
 rw [maxI_neg h1 h2]
 exact ⟨_,rfl,Wk.refl _⟩
theorem isNaN_pure (a:Int):Pure prog 124 [iv a] (.bool false) :=by
 refine pure_sym hE rfl ⟨trivial,trivial⟩ trivial fun S q pc hS hq hC hE => ?_
 conv=>whnf
 exact ⟨_,rfl,wkb (by rw [bne_self_eq_false])⟩
def ordI (a b:Int):Int :=if a < b then -1 else if b < a then 1 else 0
theorem cmp_pure (a b:Int):Pure prog 74 [iv a,iv b] (iv (ordI a b)) :=by
 refine pure_sym hE rfl ⟨trivial,trivial,trivial⟩ trivial fun S q pc hS hq hC hE => ?_
 conv=>whnf
 refine sym_pure hC (isNaN_pure a) ?_
 conv=>whnf
 refine sym_pure hC (isNaN_pure b) ?_
 conv=>whnf
 by_cases h1:a < b
 ·rw [show decide (a < b) = true from zT h1]
  conv=>whnf
  exact ⟨_,rfl,by rw [show ordI a b = -1 from if_pos h1];exact Wk.refl _⟩
 ·rw [show decide (a < b) = false from zF h1]
  conv=>whnf
  by_cases h2:b < a
  ·rw [show decide (a > b) = true from zT h2]
   conv=>whnf
   exact ⟨_,rfl,by rw [show ordI a b = 1 from (if_neg h1).trans (if_pos h2)];exact Wk.refl _⟩
  ·rw [show decide (a > b) = false from zF h2]
   conv=>whnf
   exact ⟨_,rfl,by rw [show ordI a b = 0 from (if_neg h1).trans (if_neg h2)];exact Wk.refl _⟩
end Go.Abs.Seat

/-! By how much a hand is off, and for how long it lasts: parts. -/
namespace Go.Abs.Seat
open Go Go.Abs Go.Proofs.Tryz
set_option maxRecDepth 100000
set_option maxHeartbeats 4000000
attribute [local irreducible] IntKind.wrap pEq
abbrev dN (p q:Nat):Int :=Int.ofNat p - Int.ofNat q
theorem dN_mul (p q t:Nat):dN p q * Int.ofNat t = dN (p * t) (q * t) :=by
 show ((p:Int) - (q:Int)) * (t:Int) = ((p * t:Nat):Int) - ((q * t:Nat):Int)
 rw [Int.sub_mul,Int.natCast_mul,Int.natCast_mul]
theorem wrap_dN {p q:Nat} (h1:p < 9223372036854775808) (h2:q < 9223372036854775808):IntKind.i64.wrap (dN p q) = dN p q :=by
 apply wrapI
 ·show _ ≤ (p:Int) - (q:Int);omega
 ·show (p:Int) - (q:Int) < _;omega
theorem wrap_ndN {p q:Nat} (h1:p < 9223372036854775808) (h2:q < 9223372036854775808):IntKind.i64.wrap (0 - dN p q) = dN q p :=by
 rw [show (0:Int) - dN p q = dN q p by show (0:Int) - ((p:Int) - (q:Int)) = (q:Int) - (p:Int);omega]
 exact wrap_dN h2 h1
theorem tdiv_ofNat (p b:Nat):(Int.ofNat p).tdiv (Int.ofNat b) = Int.ofNat (p / b) :=rfl
theorem dN_tdiv {p q b:Nat}:(dN p q).tdiv (Int.ofNat b) = dN ((p - q) / b) ((q - p) / b) :=by
 by_cases h:q ≤ p
 ·rw [show dN p q = Int.ofNat (p - q) by show (p:Int) - (q:Int) = ((p - q:Nat):Int);omega,tdiv_ofNat,show q - p = 0 by omega,Nat.zero_div]
  show (((p - q) / b:Nat):Int) = (((p - q) / b:Nat):Int) - ((0:Nat):Int)
  omega
 ·rw [show dN p q = -Int.ofNat (q - p) by show (p:Int) - (q:Int) = -((q - p:Nat):Int);omega,Int.neg_tdiv,tdiv_ofNat,show p - q = 0 by omega,Nat.zero_div]
  show -(((q - p) / b:Nat):Int) = ((0:Nat):Int) - (((q - p) / b:Nat):Int)
  omega
theorem isTurn_pure (n:Int):Pure prog 67 [iv n] (.bool (decide (0 ≤ n ∧ n ≤ 10000))) :=by
 refine pure_sym hE rfl ⟨trivial,trivial⟩ trivial fun S q pc hS hq hC hE => ?_
 conv=>whnf
 refine sym_pure hC (in_pure n 0 10000) ?_
 conv=>whnf
 exact ⟨_,rfl,Wk.refl _⟩
theorem rNumber_pure (n:Int):Pure prog 22 [iv n] (.bool (decide (0 ≤ n ∧ n ≤ 10000))) :=by
 refine pure_sym hE rfl ⟨trivial,trivial⟩ trivial fun S q pc hS hq hC hE => ?_
 conv=>whnf
 refine sym_pure hC (rin_pure n 0 10000) ?_
 conv=>whnf
 exact ⟨_,rfl,Wk.refl _⟩
theorem isLimit_pure (n:Int):Pure prog 65 [iv n] (.bool (decide (0 ≤ n ∧ n ≤ 10800))) :=by
 refine pure_sym hE rfl ⟨trivial,trivial⟩ trivial fun S q pc hS hq hC hE => ?_
 conv=>whnf
 refine sym_pure hC (in_pure n 0 10800) ?_
 conv=>whnf
 exact ⟨_,rfl,Wk.refl _⟩
theorem rLimit_pure (n:Int):Pure prog 20 [iv n] (.bool (decide (0 ≤ n ∧ n ≤ 10800))) :=by
 refine pure_sym hE rfl ⟨trivial,trivial⟩ trivial fun S q pc hS hq hC hE => ?_
 conv=>whnf
 refine sym_pure hC (rin_pure n 0 10800) ?_
 conv=>whnf
 exact ⟨_,rfl,Wk.refl _⟩
theorem dif_le {n d x y:Nat} (hn:n ≤ 50000) (hd:d ≤ 50000) (hx:x ≤ 216000) (hy:y ≤ 216000):x * d ≤ 10800000000 ∧ n * y ≤ 10800000000 ∧ y * d ≤ 10800000000 :=by
 have b1:x * d ≤ 216000 * 50000 :=Nat.mul_le_mul hx hd
 have b2:n * y ≤ 50000 * 216000 :=Nat.mul_le_mul hn hy
 have b3:y * d ≤ 216000 * 50000 :=Nat.mul_le_mul hy hd
 omega
theorem wrongBy_pure {v:AV} {k x y:Nat} (hv:TV v k x y) (n d:Nat) (hn:n ≤ 50000) (hd:1 ≤ d ∧ d ≤ 50000) :
  Pure prog 68 [v,fv (Int.ofNat n) (Int.ofNat d)] (.agg [iv (dN (x * d * 21600) (n * y * 21600)),nv (y * d)]) :=by
 obtain ⟨xs,rfl,lx⟩ :=hv.sh
 have b :=dif_le hn hd.2 hv.bx.2 hv.by_.2
 refine pure_sym hE rfl ⟨⟨lx,fun _ h => nomatch h⟩,⟨trivial,trivial,trivial⟩,trivial⟩ ⟨trivial,trivial,trivial⟩ fun S q pc hS hq hC hE => ?_
 conv=>whnf
 refine sym_pure hC hv.tu ?_
 conv=>whnf
 refine sym_pure hC (compare_pure x y n d (by omega) (by omega)) ?_
 conv=>whnf
 refine sym_drawn hS (by kernel_rfl) ?_
 conv=>whnf
 rw [show (Int.ofNat (x * d) - Int.ofNat (n * y)) * 21600 = dN (x * d * 21600) (n * y * 21600) from dN_mul _ _ 21600,wrap_dN (by omega) (by omega),mulN (a :=y) (b :=d) (by omega)]
 exact ⟨_,rfl,Wk.refl _⟩
theorem roff_pure {v:AV} {k x y:Nat} (hv:TV v k x y) (n d t:Nat) (hn:n ≤ 50000) (hd:1 ≤ d ∧ d ≤ 50000) (ht:t ≤ 10000) :
  Pure prog 141 [v,fv (Int.ofNat n) (Int.ofNat d),nv t] (.tup [iv (dN (x * d * t * 21600) (n * y * t * 21600)),nv (y * d)]) :=by
 obtain ⟨xs,rfl,lx⟩ :=hv.sh
 have b :=dif_le hn hd.2 hv.bx.2 hv.by_.2
 have b1:x * d * t ≤ 10800000000 * 10000 :=Nat.mul_le_mul b.1 ht
 have b2:n * y * t ≤ 10800000000 * 10000 :=Nat.mul_le_mul b.2.1 ht
 refine pure_sym hE rfl ⟨⟨lx,fun _ h => nomatch h⟩,⟨trivial,trivial,trivial⟩,trivial,trivial⟩ ⟨trivial,trivial,trivial⟩ fun S q pc hS hq hC hE => ?_
 conv=>whnf
 refine sym_pure hC hv.rtu ?_
 conv=>whnf
 refine sym_drawn hS (by kernel_rfl) ?_
 conv=>whnf
 rw [mulN (a :=x) (b :=d) (by omega),mulN (a :=n) (b :=y) (by omega),wrap_dN (by omega) (by omega),dN_mul,wrap_dN (by omega) (by omega),
  show dN (x * d * t) (n * y * t) * 21600 = dN (x * d * t * 21600) (n * y * t * 21600) from dN_mul _ _ 21600,wrap_dN (by omega) (by omega),mulN (a :=y) (b :=d) (by omega)]
 exact ⟨_,rfl,Wk.refl _⟩
end Go.Abs.Seat

/-! By how much a hand is off: rounded towards 0, down and up. -/
namespace Go.Abs.Seat
open Go Go.Abs Go.Proofs.Tryz
set_option maxRecDepth 100000
set_option maxHeartbeats 4000000
attribute [local irreducible] IntKind.wrap pEq
def trV (p q b:Nat):Int :=dN ((p - q) / b) ((q - p) / b)
abbrev offP (x d t:Nat):Nat :=x * d * t * 21600
abbrev offQ (y n t:Nat):Nat :=n * y * t * 21600
theorem off_le {n d x y t:Nat} (hn:n ≤ 50000) (hd:d ≤ 50000) (hx:x ≤ 216000) (hy:y ≤ 216000) (ht:t ≤ 10000) :
  x * d * t ≤ 108000000000000 ∧ n * y * t ≤ 108000000000000 ∧ x * d ≤ 10800000000 ∧ n * y ≤ 10800000000 ∧ y * d ≤ 10800000000 :=by
 have b :=dif_le hn hd hx hy
 have b1:x * d * t ≤ 10800000000 * 10000 :=Nat.mul_le_mul b.1 ht
 have b2:n * y * t ≤ 10800000000 * 10000 :=Nat.mul_le_mul b.2.1 ht
 omega
theorem wrap_tr {p q b:Nat} (h1:p < 9223372036854775808) (h2:q < 9223372036854775808):IntKind.i64.wrap ((dN p q).tdiv (Int.ofNat b)) = trV p q b :=by
 rw [dN_tdiv]
 have :=Nat.div_le_self (p - q) b
 have :=Nat.div_le_self (q - p) b
 exact wrap_dN (by omega) (by omega)
theorem wrap_ntr {p q b:Nat} (h1:p < 9223372036854775808) (h2:q < 9223372036854775808):IntKind.i64.wrap (0 - trV p q b) = trV q p b :=by
 have :=Nat.div_le_self (p - q) b
 have :=Nat.div_le_self (q - p) b
 exact wrap_ndN (by omega) (by omega)
theorem mulT {p q t:Nat} (h1:p * t * 21600 < 9223372036854775808) (h2:q * t * 21600 < 9223372036854775808):IntKind.i64.wrap (dN (p * 21600) (q * 21600) * Int.ofNat t) = dN (p * t * 21600) (q * t * 21600) :=by
 rw [dN_mul,Nat.mul_right_comm p,Nat.mul_right_comm q,wrap_dN h1 h2]
end Go.Abs.Seat

/-! The law TrainNearers. -/
namespace Go.Abs.Seat
open Go Go.Abs Go.Proofs.Tryz
set_option maxRecDepth 100000
set_option maxHeartbeats 4000000
attribute [local irreducible] IntKind.wrap pEq
structure TS (v:AV) (k:Nat) (b:Bool):Prop where
 sh:v = .nils ∧ k = 0 ∨ ∃ xs,v = .lst xs k .no ∧ Lives noL xs
 isT:Pure prog 63 [v] (.bool b)
 rT:k ≤ 8 → Pure prog 18 [v] (.bool b)
theorem TV.ts {v:AV} {k x y:Nat} (h:TV v k x y):TS v k true :=⟨.inr h.sh,h.isT,fun _ => h.rT⟩
theorem TN.ts {v:AV} {k:Nat} (h:TN v k):TS v k false :=⟨h.sh,h.isT,h.rT⟩
theorem TS.no {v:AV} {k:Nat} {b:Bool} (h:TS v k b):Live noL v :=by
 rcases h.sh with ⟨rfl,_⟩ | ⟨xs,rfl,hl⟩
 ·trivial
 ·exact ⟨hl,fun _ h => nomatch h⟩
theorem slim_pure (n:Int):Pure prog 14 [iv n] (.bool (decide (n ≤ 8))) :=by
 refine pure_sym hE rfl ⟨trivial,trivial⟩ trivial fun S q pc hS hq hC hE => ?_
 conv=>whnf
 exact ⟨_,rfl,Wk.refl _⟩
theorem slim_yes {n:Int} (h:n ≤ 8):Pure prog 14 [iv n] (.bool true) :=by have :=slim_pure n;rwa [zT h] at this
theorem slim_not {n:Int} (h:¬ n ≤ 8):Pure prog 14 [iv n] (.bool false) :=by have :=slim_pure n;rwa [zF h] at this
theorem ordI_neg (a b:Int):ordI b a = -ordI a b :=by unfold ordI;split <;> split <;> omega
end Go.Abs.Seat

/-! Off, Lasts, Between: the program's and the document's. -/
namespace Go.Abs.Seat
open Go Go.Abs Go.Proofs.Tryz
set_option maxRecDepth 100000
set_option maxHeartbeats 4000000
attribute [local irreducible] IntKind.wrap pEq
mutual
theorem bd_no:∀ (v:AV),Live noL v → bd v = 0
 | .unk,_ => rfl
 | .int _ _,_ => rfl
 | .bool _,_ => rfl
 | .str _,_ => rfl
 | .nilp,_ => rfl
 | .ptr _ _,h => h.elim
 | .lptr xs _,h => bdl_no0 xs h
 | .gp _ _,_ => rfl
 | .nils,_ => rfl
 | .slc _ _ _ _,h => h.elim
 | .lst xs _ .no,h => bdl_no0 xs h.1
 | .lst xs _ .full,h => bdl_no0 xs h.1
 | .lst xs _ (.ch c),h => (h.2 c rfl).elim
 | .nilm,_ => rfl
 | .map _,h => h.elim
 | .nilf,_ => rfl
 | .func _ f c,h => by show Nat.max (bdl f) (bdl c) = 0;rw [bdl_no0 f h.1,bdl_no0 c h.2];rfl
 | .yld _,h => h.elim
 | .nili,_ => rfl
 | .iface _ a,h => bd_no a h
 | .agg cs,h => bdl_no0 cs h
 | .tup cs,h => bdl_no0 cs h
theorem bdl_no0:∀ (xs:List AV),Lives noL xs → bdl xs = 0
 | [],_ => rfl
 |x :: xs,h => by show Nat.max (bd x) (bdl xs) = 0;rw [bd_no x h.1,bdl_no0 xs h.2];rfl
end
theorem bdl_no {xs:List AV} (h:Lives noL xs) {n:Nat}:bdl xs ≤ n :=by rw [bdl_no0 xs h];exact Nat.zero_le _
theorem bz {v:AV} (h:Live noL v) {n:Nat}:bd v ≤ n :=by rw [bd_no v h];exact Nat.zero_le _
theorem plan_as {p p':Plan} {y:Bool} {s n:Nat} {h:Tr AObj} {K:KP} (e:p = p') (k:runP p' y s h n K):runP p y s h n K :=e ▸ k
theorem nthP {xs:List AV} {o:Nat} {v:AV} (e:nth xs o = some v):(match nth xs o with | some v => Plan.ret v | none => Plan.fail) = Plan.ret v :=by rw [e]
abbrev wi (x y n d m t:Nat):Prop :=gapN (offP x d t) (offQ y n t) ≤ m * (y * d)
theorem gapN_mul (a b c:Nat):gapN (a * c) (b * c) = gapN a b * c :=by
 unfold gapN
 rw [← Nat.sub_mul,← Nat.sub_mul,← Nat.add_mul]
theorem minI_T (b:Nat):minI 10000 (Int.ofNat b) = Int.ofNat (min 10000 b) :=by
 unfold minI
 show (if ((b:Nat):Int) < 10000 then ((b:Nat):Int) else 10000) = ((min 10000 b:Nat):Int)
 split <;> omega
def lastV (x y n d m:Nat):Nat :=if gapN (x * d) (n * y) = 0 then 10000 else min 10000 (m * (y * d) / (gapN (x * d) (n * y) * 21600))
theorem lastV_le (x y n d m:Nat):lastV x y n d m ≤ 10000 :=by unfold lastV;split <;> omega
theorem wi_iff (x y n d m t:Nat) (ht:t ≤ 10000):wi x y n d m t ↔ t ≤ lastV x y n d m :=by
 unfold wi lastV offP offQ
 rw [gapN_mul,gapN_mul]
 generalize gapN (x * d) (n * y) = g
 generalize m * (y * d) = M
 split
 ·rename_i h
  subst h
  simp
  exact ht
 ·rename_i h
  rw [Nat.le_min,Nat.le_div_iff_mul_le (by omega),show t * (g * 21600) = g * t * 21600 by rw [← Nat.mul_assoc,Nat.mul_comm t g]]
  exact ⟨fun k => ⟨ht,k⟩,fun k => k.2⟩
theorem within_pure {v:AV} {k x y:Nat} (hv:TV v k x y) (n d m t:Nat) (hn:n ≤ 50000) (hd:1 ≤ d ∧ d ≤ 50000) (hm:m ≤ 10800) (ht:t ≤ 10000) :
  Pure prog 125 [v,fv (Int.ofNat n) (Int.ofNat d),nv m,nv t] (.bool (decide (wi x y n d m t))) :=by
 have p1 :=roff_pure hv n d t hn hd ht
 have b :=off_le hn hd.2 hv.bx.2 hv.by_.2 ht
 have b2:m * (y * d) ≤ 10800 * 10800000000 :=Nat.mul_le_mul hm b.2.2.2.2
 obtain ⟨xs,rfl,lx⟩ :=hv.sh
 refine zA fun S q pc hS hq hC hE => ?_
 conv=>whnf
 refine sym_pure hC (p1) ?_
 conv=>whnf
 rw [mulN (a :=m) (b :=y * d) (by omega),maxI_neg (by omega) (by omega)]
 refine ⟨_,rfl,wkb ?_⟩
 by_cases h:wi x y n d m t
 ·rw [zT h];exact leN_t h
 ·rw [zF h];exact leN_f h
theorem wlasts_pure (x y n d m:Nat) (h1:x * d ≤ 10800000000) (h2:n * y ≤ 10800000000) (h3:y * d ≤ 10800000000) (hm:m ≤ 10800) :
  Pure prog 69 [.agg [iv (dN (x * d * 21600) (n * y * 21600)),nv (y * d)],nv m] (nv (lastV x y n d m)) :=by
 have b2:m * (y * d) ≤ 10800 * 10800000000 :=Nat.mul_le_mul hm h3
 refine zA fun S q pc hS hq hC hE => ?_
 conv=>whnf
 rw [maxI_neg (by omega) (by omega),gapN_mul]
 by_cases h:gapN (x * d) (n * y) = 0
 ·rw [show (Int.ofNat (gapN (x * d) (n * y) * 21600) == 0) = true by rw [h];rfl]
  conv=>whnf
  refine ⟨_,rfl,?_⟩
  rw [show lastV x y n d m = 10000 from if_pos h]
  exact Wk.refl _
 ·have hg:1 ≤ gapN (x * d) (n * y) * 21600 :=by omega
  rw [show (Int.ofNat (gapN (x * d) (n * y) * 21600) == 0) = false from by simpa using ne0 hg]
  conv=>whnf
  refine bool_true (ne0 hg) ?_
  conv=>whnf
  rw [mulN (a :=m) (b :=y * d) (by omega),quoN (by omega),minI_T]
  refine ⟨_,rfl,?_⟩
  rw [show lastV x y n d m = min 10000 (m * (y * d) / (gapN (x * d) (n * y) * 21600)) from if_neg h]
  exact Wk.refl _
end Go.Abs.Seat

/-! The law TrainOffs. -/
namespace Go.Abs.Seat
open Go Go.Abs Go.Proofs.Tryz
set_option maxRecDepth 100000
set_option maxHeartbeats 4000000
attribute [local irreducible] IntKind.wrap pEq
theorem ts_of {v:AV} {k:Nat} (hv:(∃ x y,TV v k x y) ∨ TN v k):∃ b,TS v k b ∧ (b = true → ∃ x y,TV v k x y) :=by
 rcases hv with ⟨x,y,h⟩ | h
 ·exact ⟨true,h.ts,fun _ => ⟨x,y,h⟩⟩
 ·exact ⟨false,h.ts,fun e => nomatch e⟩
theorem dec_b {f:FuncId} {xs:List AV} {p:Prop} [Decidable p] (h:Pure prog f xs (.bool (decide p))):∃ b,Pure prog f xs (.bool b) ∧ (b = true ↔ p) :=⟨_,h,decide_eq_true_iff⟩
theorem int_nat {a:Int} {m:Int} (h:0 ≤ a ∧ a ≤ m):∃ x:Nat,a = Int.ofNat x ∧ (x:Int) ≤ m :=⟨a.toNat,by show a = ((a.toNat:Nat):Int);omega,by omega⟩
end Go.Abs.Seat

/-! Feasts and settings: lists of numbers. -/
namespace Go.Abs.Seat
open Go Go.Abs Go.Proofs.Tryz
set_option maxRecDepth 100000
set_option maxHeartbeats 4000000
attribute [local irreducible] IntKind.wrap pEq
def ivs:List Int → List AV
 | [] => []
 |x :: r => iv x :: ivs r
abbrev nl (l:List Int):AV :=.lst (ivs l) l.length .no
abbrev gi (l:List Int) (i:Nat):Int :=l.getD i 0
theorem ivs_len:∀ l,(ivs l).length = l.length
 | [] => rfl
 | _ :: r => by simp only [ivs,List.length_cons,ivs_len r]
theorem ivs_no:∀ l,Lives noL (ivs l)
 | [] => trivial
 | _ :: r => ⟨trivial,ivs_no r⟩
theorem nl_no (l:List Int):Live noL (nl l) :=⟨ivs_no l,fun _ h => nomatch h⟩
theorem nth_ivs:∀ (l:List Int) (i:Nat),i < l.length → nth (ivs l) i = some (iv (gi l i))
 |x :: r,0,_ => rfl
 |x :: r,i + 1,h => nth_ivs r i (by simpa using h)
 | [],i,h => absurd h (Nat.not_lt_zero _)
theorem nth_ivs1 {l:List Int} {i:Nat} (h:i < l.length):nth (ivs l) (i * 1) = some (iv (gi l i)) :=by rw [Nat.mul_one];exact nth_ivs l i h
theorem inR_t {i n:Nat} (h:i < n):inR (Int.ofNat i) n = true :=by
 unfold inR
 rw [zT (show (0:Int) ≤ Int.ofNat i by show (0:Int) ≤ (i:Int);omega),zT (show Int.ofNat i < (n:Int) by show (i:Int) < (n:Int);omega)]
 rfl
def feAt (l:List Int) (i:Nat):Prop :=(1 ≤ gi l i ∧ gi l i ≤ 10000) ∧ (0 < i → gi l (i - 1) < gi l i)
def feOk (l:List Int):Prop :=(∀ i,i < l.length → feAt l i) ∧ l.length ≤ 8
theorem bfalse {b:Bool} {p:Prop} (h:b = true ↔ p) (hp:¬ p):b = false :=Bool.eq_false_iff.2 fun e => hp (h.1 e)
theorem btrue {b:Bool} {p:Prop} (h:b = true ↔ p) (hp:p):b = true :=h.2 hp
theorem upto {p:Nat → Prop} {i:Nat} (h:∀ j,j < i → p j) (hi:p i):∀ j,j < i + 1 → p j :=fun j hj => by
 by_cases e:j = i
 ·subst e;exact hi
 ·exact h j (by omega)
theorem areFeasts_pure (l:List Int) (hl:l.length < 4611686018427387904) {b:Bool} (hb:b = true ↔ feOk l):Pure prog 66 [nl l] (.bool b) :=by
 have ln :=ivs_no l
 refine zA fun S q pc hS hq hC hE => ?_
 conv=>whnf
 refine sym_loop hE hS (A :=Nat) [0,5,6] (fun i => [(7,nv i)]) (fun _ => []) (fun i => i ≤ l.length ∧ ∀ j,j < i → feAt l j) (fun i => l.length - i) 0 rfl rfl zD ⟨Nat.zero_le _,fun j h => absurd h (Nat.not_lt_zero _)⟩ ?_
 intro i ⟨hi,hf⟩
 conv=>whnf
 by_cases h:i < l.length
 ·rw [show decide (Int.ofNat i < ↑l.length) = true from ltN_t h]
  conv=>whnf
  refine bool_true (inR_t (i :=i) (n :=l.length) h) ?_
  conv=>whnf
  refine plan_as (nthP (nth_ivs1 (l :=l) (i :=i) h)) ?_
  conv=>whnf
  refine sym_pure hC (in_pure (gi l i) 1 10000) ?_
  conv=>whnf
  have nx:∀ j,j < i + 1 → ¬ feAt l i → b = false :=fun _ _ k => bfalse hb fun q => k (q.1 i h)
  by_cases h1:1 ≤ gi l i ∧ gi l i ≤ 10000
  ·rw [zT h1]
   conv=>whnf
   cases i with
   |zero =>
    conv=>whnf
    rw [show IntKind.i64.wrap (Int.ofNat 0 + 1) = 1 from wrapI (by decide) (by decide)]
    conv=>whnf
    exact ⟨1,⟨h,upto hf ⟨h1,fun k => absurd k (Nat.lt_irrefl _)⟩⟩,by omega,zD⟩
   |succ i =>
    conv=>whnf
    rw [show decide (Int.ofNat (i + 1) > 0) = true from (pos0 _).2 (by omega)]
    conv=>whnf
    rw [show IntKind.i64.wrap (Int.ofNat (i + 1) - 1) = Int.ofNat i from wrapSub1 (m :=i + 1) (by omega) (by omega)]
    conv=>whnf
    have h':i < l.length :=by omega
    refine bool_true (inR_t (i :=i) (n :=l.length) h') ?_
    conv=>whnf
    refine plan_as (nthP (nth_ivs1 (l :=l) (i :=i) h')) ?_
    conv=>whnf
    by_cases h2:gi l (i + 1) ≤ gi l i
    ·rw [show decide (gi l (i + 1) ≤ gi l i) = true from zT h2]
     conv=>whnf
     rw [nx 0 (by omega) fun k => by have :=k.2 (by omega);simp only [Nat.add_sub_cancel] at this;omega]
     exact ⟨_,rfl,Wk.refl _⟩
    ·rw [show decide (gi l (i + 1) ≤ gi l i) = false from zF h2]
     conv=>whnf
     rw [show IntKind.i64.wrap (Int.ofNat (i + 1) + 1) = Int.ofNat (i + 2) from wrapN (m :=i + 2) (by omega)]
     exact ⟨i + 2,⟨h,upto hf ⟨h1,fun _ => by simp only [Nat.add_sub_cancel];omega⟩⟩,by omega,zD⟩
  ·rw [zF h1]
   conv=>whnf
   rw [nx 0 (by omega) fun k => h1 k.1]
   exact ⟨_,rfl,Wk.refl _⟩
 ·rw [show decide (Int.ofNat i < ↑l.length) = false from ltN_f h]
  conv=>whnf
  have hi:i = l.length :=by omega
  subst hi
  refine ⟨_,rfl,wkb ?_⟩
  by_cases h8:l.length ≤ 8
  ·rw [btrue hb ⟨hf,h8⟩];exact zT (by omega)
  ·rw [bfalse hb fun k => h8 k.2];exact zF (by omega)
theorem rFeasts_pure (l:List Int) (hl:l.length < 4611686018427387904) {b:Bool} (hb:b = true ↔ feOk l):Pure prog 21 [nl l] (.bool b) :=by
 have ln :=ivs_no l
 refine zA fun S q pc hS hq hC hE => ?_
 conv=>whnf
 refine sym_loop hE hS (A :=Nat) [0] (fun i => [(3,nv i)]) (fun _ => []) (fun i => i ≤ l.length ∧ ∀ j,j < i → feAt l j) (fun i => l.length - i) 0 rfl rfl zD ⟨Nat.zero_le _,fun j h => absurd h (Nat.not_lt_zero _)⟩ ?_
 intro i ⟨hi,hf⟩
 conv=>whnf
 by_cases h:i < l.length
 ·rw [show decide (Int.ofNat i < ↑l.length) = true from ltN_t h]
  conv=>whnf
  refine bool_true (inR_t (i :=i) (n :=l.length) h) ?_
  conv=>whnf
  refine plan_as (nthP (nth_ivs1 (l :=l) (i :=i) h)) ?_
  conv=>whnf
  refine sym_pure hC (rin_pure (gi l i) 1 10000) ?_
  conv=>whnf
  have nx:∀ j,j < i + 1 → ¬ feAt l i → b = false :=fun _ _ k => bfalse hb fun q => k (q.1 i h)
  by_cases h1:1 ≤ gi l i ∧ gi l i ≤ 10000
  ·rw [zT h1]
   conv=>whnf
   cases i with
   |zero =>
    conv=>whnf
    refine zd hS ?_
    conv=>whnf
    rw [show IntKind.i64.wrap (Int.ofNat 0 + 1) = 1 from wrapI (by decide) (by decide)]
    conv=>whnf
    exact ⟨1,⟨h,upto hf ⟨h1,fun k => absurd k (Nat.lt_irrefl _)⟩⟩,by omega,zD⟩
   |succ i =>
    conv=>whnf
    rw [show decide (Int.ofNat (i + 1) > 0) = true from (pos0 _).2 (by omega)]
    conv=>whnf
    refine bool_true (inR_t (i :=(i+1)) (n :=l.length) h) ?_
    conv=>whnf
    refine plan_as (nthP (nth_ivs1 (l :=l) (i :=(i+1)) h)) ?_
    conv=>whnf
    rw [show IntKind.i64.wrap (Int.ofNat (i + 1) - 1) = Int.ofNat i from wrapSub1 (m :=i + 1) (by omega) (by omega)]
    conv=>whnf
    have h':i < l.length :=by omega
    refine bool_true (inR_t (i :=i) (n :=l.length) h') ?_
    conv=>whnf
    refine plan_as (nthP (nth_ivs1 (l :=l) (i :=i) h')) ?_
    conv=>whnf
    refine zd hS ?_
    conv=>whnf
    by_cases h2:gi l (i + 1) ≤ gi l i
    ·rw [show decide (gi l (i + 1) ≤ gi l i) = true from zT h2]
     conv=>whnf
     rw [nx 0 (by omega) fun k => by have :=k.2 (by omega);simp only [Nat.add_sub_cancel] at this;omega]
     exact ⟨_,rfl,Wk.refl _⟩
    ·rw [show decide (gi l (i + 1) ≤ gi l i) = false from zF h2]
     conv=>whnf
     rw [show IntKind.i64.wrap (Int.ofNat (i + 1) + 1) = Int.ofNat (i + 2) from wrapN (m :=i + 2) (by omega)]
     exact ⟨i + 2,⟨h,upto hf ⟨h1,fun _ => by simp only [Nat.add_sub_cancel];omega⟩⟩,by omega,zD⟩
  ·rw [zF h1]
   conv=>whnf
   refine zd hS ?_
   conv=>whnf
   rw [nx 0 (by omega) fun k => h1 k.1]
   exact ⟨_,rfl,Wk.refl _⟩
 ·rw [show decide (Int.ofNat i < ↑l.length) = false from ltN_f h]
  conv=>whnf
  have hi:i = l.length :=by omega
  subst hi
  refine ⟨_,rfl,wkb ?_⟩
  by_cases h8:l.length ≤ 8
  ·rw [btrue hb ⟨hf,h8⟩];exact zT (by omega)
  ·rw [bfalse hb fun k => h8 k.2];exact zF (by omega)
theorem areFeasts_nil:Pure prog 66 [.nils] (.bool true) :=by
 refine zA fun S q pc hS hq hC hE => ?_
 conv=>whnf
 refine sym_unroll hE hS ?_
 conv=>whnf
 exact ⟨_,rfl,Wk.refl _⟩
theorem rFeasts_nil:Pure prog 21 [.nils] (.bool true) :=by
 refine zA fun S q pc hS hq hC hE => ?_
 conv=>whnf
 refine sym_unroll hE hS ?_
 conv=>whnf
 exact ⟨_,rfl,Wk.refl _⟩
def IL (v:AV) (l:List Int):Prop :=v = .nils ∧ l = [] ∨ v = nl l
theorem IL.no {v:AV} {l:List Int} (h:IL v l):Live noL v :=by
 rcases h with ⟨rfl,_⟩ | rfl
 ·trivial
 ·exact nl_no l
theorem feOk_nil:feOk [] :=⟨fun _ h => absurd h (Nat.not_lt_zero _),Nat.zero_le _⟩
theorem feasts_b {v:AV} {l:List Int} (h:IL v l) (hl:l.length < 4611686018427387904):∃ b,Pure prog 66 [v] (.bool b) ∧ Pure prog 21 [v] (.bool b) ∧ (b = true ↔ feOk l) :=by
 rcases h with ⟨rfl,rfl⟩ | rfl
 ·exact ⟨true,areFeasts_nil,rFeasts_nil,fun _ => feOk_nil,fun _ => rfl⟩
 ·have hb :=Classical.propDecidable (feOk l)
  exact ⟨decide (feOk l),areFeasts_pure l hl decide_eq_true_iff,rFeasts_pure l hl decide_eq_true_iff,decide_eq_true_iff⟩
def seAt (n:Nat) (l:List Int) (i:Nat):Prop :=(0 ≤ gi l i ∧ gi l i ≤ (n:Int) - 1) ∧ (0 < i → gi l (i - 1) < gi l i)
def seOk (n:Nat) (l:List Int):Prop :=∀ i,i < l.length → seAt n l i
end Go.Abs.Seat

/-! Hands that are set: whether they are kept, and where they are. -/
namespace Go.Abs.Seat
open Go Go.Abs Go.Proofs.Tryz
set_option maxRecDepth 100000
set_option maxHeartbeats 4000000
attribute [local irreducible] IntKind.wrap pEq
def days (f s:List Int):List Int :=s.map fun x => gi f x.toNat
theorem days_len (f s:List Int):(days f s).length = s.length :=List.length_map _
theorem days_gi (f s:List Int) {i:Nat} (h:i < s.length):gi (days f s) i = gi f (gi s i).toNat :=by
 simp [gi,days,List.getD,h]
theorem drop_gi (l:List Int) {i:Nat} (h:i < l.length):l.drop i = gi l i :: l.drop (i + 1) :=by
 rw [List.drop_eq_getElem_cons h]
 simp [gi,List.getD,h]
structure Days (f s:List Int):Prop where
 fl:f.length ≤ 8
 ix:∀ i,i < s.length → (0 ≤ gi s i ∧ gi s i < f.length)
 rg:∀ i,i < s.length → (1 ≤ gi f (gi s i).toNat ∧ gi f (gi s i).toNat ≤ 10000)
 up:∀ i,i + 1 < s.length → gi f (gi s i).toNat < gi f (gi s (i + 1)).toNat
 sl:s.length ≤ f.length
theorem fe_up {f:List Int} (h:feOk f):∀ (k i:Nat),i + k < f.length → 0 < k → gi f i < gi f (i + k)
 | 0,_,_,hk => absurd hk (Nat.lt_irrefl _)
 |k + 1,i,hi,_ => by
  have h1 :=(h.1 (i + (k + 1)) hi).2 (by omega)
  have e:i + (k + 1) - 1 = i + k :=by omega
  rw [e] at h1
  by_cases k0:k = 0
  ·subst k0;exact h1
  ·have :=fe_up h k i (by omega) (by omega)
   omega
theorem se_ge {n:Nat} {s:List Int} (h:seOk n s):∀ i,i < s.length → (i:Int) ≤ gi s i
 | 0,hi => (h 0 hi).1.1
 |i + 1,hi => by
  have h1 :=(h (i + 1) hi).2 (by omega)
  have h2 :=se_ge h i (by omega)
  simp only [Nat.add_sub_cancel] at h1
  omega
theorem Days.of {f s:List Int} (hf:feOk f) (hs:seOk f.length s):Days f s where
 fl :=hf.2
 ix :=fun i hi => by have :=(hs i hi).1;omega
 rg :=fun i hi => by
  have :=(hs i hi).1
  exact (hf.1 _ (by omega)).1
 up :=fun i hi => by
  have h1 :=(hs i (by omega)).1
  have h2 :=(hs (i + 1) hi).1
  have h3 :=(hs (i + 1) hi).2 (by omega)
  simp only [Nat.add_sub_cancel] at h3
  have e:(gi s (i + 1)).toNat = (gi s i).toNat + ((gi s (i + 1)).toNat - (gi s i).toNat) :=by omega
  rw [e]
  exact fe_up hf _ _ (by omega) (by omega)
 sl :=by
  by_cases h:s.length = 0
  ·omega
  ·have h1 :=se_ge hs (s.length - 1) (by omega)
   have h2 :=(hs (s.length - 1) (by omega)).1
   omega
def kp (L u:Int):Int → List Int → Prop
 |last,[] => u - last ≤ L
 |last,x :: r => if x < u then x - last ≤ L ∧ kp L u x r else u - last ≤ L
theorem inR_i {i:Int} {n:Nat} (h:0 ≤ i ∧ i < n):inR i n = true :=by
 unfold inR
 rw [zT h.1,zT h.2];rfl
theorem keeps_pure (f s:List Int) (hd:Days f s) (L u:Nat) (_hL:L ≤ 10000) (hu:u ≤ 10000) {b:Bool} (hb:b = true ↔ kp L u 0 (days f s)) :
  Pure prog 70 [nv L,nl f,nl s,nv u] (.bool b) :=by
 have ls :=ivs_no s
 have lf :=ivs_no f
 have sl :=hd.sl
 have fl :=hd.fl
 refine zA fun S q pc hS hq hC hE => ?_
 conv=>whnf
 refine sym_loop hE hS (A :=Nat × Int) [0,1,3,12,13] (fun (i,t) => [(9,iv t),(14,nv i)]) (fun _ => [])
  (fun (i,t) => i ≤ s.length ∧ (b = true ↔ kp L u t ((days f s).drop i)) ∧ (0 ≤ t ∧ t ≤ u) ∧ (i < s.length → t < gi f (gi s i).toNat)) (fun (i,_) => s.length - i) (0,0) rfl rfl zD
  ⟨Nat.zero_le _,hb,⟨Int.le_refl _,by omega⟩,fun h => by have :=(hd.rg 0 h).1;omega⟩ ?_
 rintro ⟨i,t⟩ ⟨hi,hk,ht,hn⟩
 conv=>whnf
 by_cases h:i < s.length
 ·have hix :=hd.ix i h
  have hrg :=hd.rg i h
  rw [drop_gi _ (by rw [days_len];exact h),days_gi _ _ h] at hk
  rw [show decide (Int.ofNat i < ↑s.length) = true from ltN_t h]
  conv=>whnf
  refine bool_true (inR_t (i :=i) (n :=s.length) h) ?_
  conv=>whnf
  refine plan_as (nthP (nth_ivs1 (l :=s) (i :=i) h)) ?_
  conv=>whnf
  obtain ⟨x,hx⟩ : ∃ x,gi f (gi s i).toNat = x :=⟨_,rfl⟩
  have nx:nth (ivs f) ((gi s i).toNat * 1) = some (iv x) :=by rw [nth_ivs1 (by omega),hx]
  have hup :=fun k => hd.up i k
  rw [hx] at hk hn hrg hup
  have hn :=hn h
  refine bool_true (inR_i hix) ?_
  conv=>whnf
  refine plan_as (nthP (nx)) ?_
  conv=>whnf
  rw [kp] at hk
  by_cases h1:x > Int.ofNat u
  ·rw [zT h1]
   conv=>whnf
   rw [show IntKind.i64.wrap (Int.ofNat u - t) = Int.ofNat u - t from wrapI (by simp only [Int.ofNat_eq_natCast];omega) (by simp only [Int.ofNat_eq_natCast];omega)]
   refine ⟨_,rfl,wkb ?_⟩
   have h1:(u:Int) < x :=h1
   rw [if_neg (by omega)] at hk
   exact (decT hk).symm
  ·rw [zF h1]
   conv=>whnf
   have h1:¬ (u:Int) < x :=h1
   refine bool_true (inR_i hix) ?_
   conv=>whnf
   refine plan_as (nthP (nx)) ?_
   conv=>whnf
   rw [show IntKind.i64.wrap (x - t) = x - t from wrapI (by omega) (by omega)]
   by_cases h2:x - t > Int.ofNat L
   ·rw [zT h2]
    conv=>whnf
    refine ⟨_,rfl,wkb (bfalse hk ?_).symm⟩
    have h2:(L:Int) < x - t :=h2
    split
    ·omega
    ·omega
   ·rw [zF h2]
    conv=>whnf
    have h2:¬ (L:Int) < x - t :=h2
    refine bool_true (inR_i hix) ?_
    conv=>whnf
    refine plan_as (nthP (nx)) ?_
    conv=>whnf
    rw [show IntKind.i64.wrap (Int.ofNat i + 1) = Int.ofNat (i + 1) from wrapN (m :=i + 1) (by omega)]
    refine ⟨(i + 1,x),⟨h,?_,by omega,fun k => hup k⟩,by show s.length - (i + 1) < s.length - i;omega,zD⟩
    rw [hk]
    by_cases h3:x < u
    ·rw [if_pos h3]
     exact ⟨fun k => k.2,fun k => ⟨by omega,k⟩⟩
    ·rw [if_neg h3]
     have hxu:x = u :=by omega
     refine ⟨fun _ => ?_,fun _ => by omega⟩
     by_cases h4:i + 1 < s.length
     ·rw [drop_gi _ (by rw [days_len];exact h4),days_gi _ _ h4,kp,if_neg (by have :=hup h4;omega)]
      omega
     ·rw [List.drop_eq_nil_of_le (by rw [days_len];omega),kp]
      omega
 ·rw [show decide (Int.ofNat i < ↑s.length) = false from ltN_f h]
  conv=>whnf
  rw [show IntKind.i64.wrap (Int.ofNat u - t) = Int.ofNat u - t from wrapI (by simp only [Int.ofNat_eq_natCast];omega) (by simp only [Int.ofNat_eq_natCast];omega)]
  rw [List.drop_eq_nil_of_le (by rw [days_len];omega),kp] at hk
  exact ⟨_,rfl,wkb (decT hk).symm⟩
theorem wi_sub {x y n d m t:Nat} (ht:t ≤ 10000):decide (wi x y n d m t) = decide (t ≤ lastV x y n d m) :=by
 by_cases h:wi x y n d m t
 ·rw [zT h,zT ((wi_iff x y n d m t ht).1 h)]
 ·rw [zF h,zF fun k => h ((wi_iff x y n d m t ht).2 k)]
theorem rKeeps_pure {v:AV} {k x y:Nat} (hv:TV v k x y) (n d m:Nat) (hn:n ≤ 50000) (hnd:1 ≤ d ∧ d ≤ 50000) (hm:m ≤ 10800) (f s:List Int) (hd:Days f s) (u:Nat) (hu:u ≤ 10000) {b:Bool} (hb:b = true ↔ kp (lastV x y n d m) u 0 (days f s)) :
  Pure prog 79 [v,fv (Int.ofNat n) (Int.ofNat d),nv m,nl f,nl s,nv u] (.bool b) :=by
 have hw:∀ t:Nat,t ≤ 10000 → Pure prog 125 [v,fv (Int.ofNat n) (Int.ofNat d),nv m,nv t] (.bool (decide (t ≤ lastV x y n d m))) :=fun t ht => by
  rw [← wi_sub ht];exact within_pure hv n d m t hn hnd hm ht
 have ls :=ivs_no s
 have lf :=ivs_no f
 have sl :=hd.sl
 have fl :=hd.fl
 generalize lastV x y n d m = L at *
 obtain ⟨xs,rfl,lx⟩ :=hv.sh
 refine zA fun S q pc hS hq hC hE => ?_
 conv=>whnf
 refine sym_loop hE hS (A :=Nat × Nat) [0,2,3,4,5,7] (fun (i,t) => [(13,nv t),(14,nv i)]) (fun _ => [])
  (fun (i,t) => i ≤ s.length ∧ (b = true ↔ kp L u t ((days f s).drop i)) ∧ t ≤ u ∧ (i < s.length → (t:Int) < gi f (gi s i).toNat)) (fun (i,_) => s.length - i) (0,0) rfl rfl zD
  ⟨Nat.zero_le _,hb,by omega,fun h => by have :=(hd.rg 0 h).1;omega⟩ ?_
 rintro ⟨i,t⟩ ⟨hi,hk,ht,hn⟩
 conv=>whnf
 by_cases h:i < s.length
 ·have hix :=hd.ix i h
  have hrg :=hd.rg i h
  rw [drop_gi _ (by rw [days_len];exact h),days_gi _ _ h] at hk
  rw [show decide (Int.ofNat i < ↑s.length) = true from ltN_t h]
  conv=>whnf
  refine bool_true (inR_t (i :=i) (n :=s.length) h) ?_
  conv=>whnf
  refine plan_as (nthP (nth_ivs1 (l :=s) (i :=i) h)) ?_
  conv=>whnf
  obtain ⟨z,hx⟩ : ∃ z,gi f (gi s i).toNat = z :=⟨_,rfl⟩
  have nx:nth (ivs f) ((gi s i).toNat * 1) = some (iv z) :=by rw [nth_ivs1 (by omega),hx]
  have hup :=fun k => hd.up i k
  rw [hx] at hk hn hrg hup
  have hn :=hn h
  refine bool_true (inR_i hix) ?_
  conv=>whnf
  refine plan_as (nthP (nx)) ?_
  conv=>whnf
  rw [kp] at hk
  by_cases h1:z < Int.ofNat u
  ·rw [zT h1]
   conv=>whnf
   have h1:z < (u:Int) :=h1
   refine bool_true (inR_t (i :=i) (n :=s.length) h) ?_
   conv=>whnf
   refine plan_as (nthP (nth_ivs1 (l :=s) (i :=i) h)) ?_
   conv=>whnf
   refine bool_true (inR_i hix) ?_
   conv=>whnf
   refine plan_as (nthP (nx)) ?_
   conv=>whnf
   obtain ⟨w,rfl,hw1⟩ : ∃ w:Nat,z = Int.ofNat w ∧ w ≤ 10000 :=⟨z.toNat,by show z = ((z.toNat:Nat):Int);omega,by omega⟩
   have hn:(t:Int) < (w:Int) :=hn
   have h1:(w:Int) < (u:Int) :=h1
   rw [subN (a :=w) (b :=t) (by omega),wrapN (m :=w - t) (by omega)]
   refine sym_pure hC (hw (w - t) (by omega)) ?_
   conv=>whnf
   rw [if_pos (show Int.ofNat w < (u:Int) from h1)] at hk
   by_cases h2:w - t ≤ L
   ·rw [zT h2]
    conv=>whnf
    refine zd hS ?_
    conv=>whnf
    refine bool_true (inR_t (i :=i) (n :=s.length) h) ?_
    conv=>whnf
    refine plan_as (nthP (nth_ivs1 (l :=s) (i :=i) h)) ?_
    conv=>whnf
    refine bool_true (inR_i hix) ?_
    conv=>whnf
    refine plan_as (nthP (nx)) ?_
    conv=>whnf
    rw [show IntKind.i64.wrap (Int.ofNat i + 1) = Int.ofNat (i + 1) from wrapN (m :=i + 1) (by omega)]
    refine ⟨(i + 1,w),⟨h,?_,by show w ≤ u;omega,fun k => hup k⟩,by show s.length - (i + 1) < s.length - i;omega,zD⟩
    rw [hk]
    exact ⟨fun k => k.2,fun k => ⟨by show (w:Int) - t ≤ L;omega,k⟩⟩
   ·rw [zF h2]
    conv=>whnf
    refine zd hS ?_
    conv=>whnf
    exact ⟨_,rfl,wkb (bfalse hk fun k => h2 (by have:(w:Int) - t ≤ L :=k.1;omega)).symm⟩
  ·rw [zF h1]
   conv=>whnf
   rw [subN (a :=u) (b :=t) (by omega),wrapN (m :=u - t) (by omega)]
   refine sym_pure hC (hw (u - t) (by omega)) ?_
   conv=>whnf
   rw [if_neg (show ¬ z < (u:Int) from h1)] at hk
   exact ⟨_,rfl,wkb (by rw [decT hk];exact decide_eq_decide.2 (by omega))⟩
 ·rw [show decide (Int.ofNat i < ↑s.length) = false from ltN_f h]
  conv=>whnf
  rw [subN (a :=u) (b :=t) (by omega),wrapN (m :=u - t) (by omega)]
  refine sym_pure hC (hw (u - t) (by omega)) ?_
  conv=>whnf
  rw [List.drop_eq_nil_of_le (by rw [days_len];omega),kp] at hk
  exact ⟨_,rfl,wkb (by rw [decT hk];exact decide_eq_decide.2 (by omega))⟩
theorem keeps_nil {w:AV} {f:List Int} (hw:IL w f) (L u:Nat) (hu:u ≤ 10000) {b:Bool} (hb:b = true ↔ kp L u 0 []) :
  Pure prog 70 [nv L,w,.nils,nv u] (.bool b) :=by
 have lw :=hw.no
 rcases hw with ⟨rfl,rfl⟩ | rfl
 all_goals
  refine zA fun S q pc hS hq hC hE => ?_
  conv=>whnf
  refine sym_unroll hE hS ?_
  conv=>whnf
  rw [show IntKind.i64.wrap (Int.ofNat u - 0) = Int.ofNat u - 0 from wrapI (by simp only [Int.ofNat_eq_natCast];omega) (by simp only [Int.ofNat_eq_natCast];omega)]
  rw [kp] at hb
  exact ⟨_,rfl,wkb (decT hb).symm⟩
theorem keeps_nil' (L u:Nat) (hu:u ≤ 10000) {b:Bool} (hb:b = true ↔ kp L u 0 []):Pure prog 70 [nv L,.nils,nl [],nv u] (.bool b) :=by
 refine zA fun S q pc hS hq hC hE => ?_
 conv=>whnf
 refine sym_unroll hE hS ?_
 conv=>whnf
 rw [show IntKind.i64.wrap (Int.ofNat u - 0) = Int.ofNat u - 0 from wrapI (by simp only [Int.ofNat_eq_natCast];omega) (by simp only [Int.ofNat_eq_natCast];omega)]
 rw [kp] at hb
 exact ⟨_,rfl,wkb (decT hb).symm⟩
theorem rKeeps_nil {v:AV} {k x y:Nat} (hv:TV v k x y) (n d m:Nat) (hn:n ≤ 50000) (hnd:1 ≤ d ∧ d ≤ 50000) (hm:m ≤ 10800) {w:AV} {f:List Int} (hf:IL w f) (u:Nat) (hu:u ≤ 10000) {b:Bool} (hb:b = true ↔ kp (lastV x y n d m) u 0 []) :
  Pure prog 79 [v,fv (Int.ofNat n) (Int.ofNat d),nv m,w,.nils,nv u] (.bool b) :=by
 have hw:∀ t:Nat,t ≤ 10000 → Pure prog 125 [v,fv (Int.ofNat n) (Int.ofNat d),nv m,nv t] (.bool (decide (t ≤ lastV x y n d m))) :=fun t ht => by
  rw [← wi_sub ht];exact within_pure hv n d m t hn hnd hm ht
 generalize lastV x y n d m = L at *
 have lw :=hf.no
 obtain ⟨xs,rfl,lx⟩ :=hv.sh
 rcases hf with ⟨rfl,rfl⟩ | rfl
 all_goals
  refine zA fun S q pc hS hq hC hE => ?_
  conv=>whnf
  refine sym_unroll hE hS ?_
  conv=>whnf
  rw [show IntKind.i64.wrap (Int.ofNat u - 0) = Int.ofNat u from wrapN (m :=u) (by omega)]
  refine sym_pure hC (hw u hu) ?_
  conv=>whnf
  rw [kp] at hb
  exact ⟨_,rfl,wkb (by rw [decT hb];exact decide_eq_decide.2 (by omega))⟩
theorem rKeeps_nil' {v:AV} {k x y:Nat} (hv:TV v k x y) (n d m:Nat) (hn:n ≤ 50000) (hnd:1 ≤ d ∧ d ≤ 50000) (hm:m ≤ 10800) (u:Nat) (hu:u ≤ 10000) {b:Bool} (hb:b = true ↔ kp (lastV x y n d m) u 0 []) :
  Pure prog 79 [v,fv (Int.ofNat n) (Int.ofNat d),nv m,.nils,nl [],nv u] (.bool b) :=by
 have hw:∀ t:Nat,t ≤ 10000 → Pure prog 125 [v,fv (Int.ofNat n) (Int.ofNat d),nv m,nv t] (.bool (decide (t ≤ lastV x y n d m))) :=fun t ht => by
  rw [← wi_sub ht];exact within_pure hv n d m t hn hnd hm ht
 generalize lastV x y n d m = L at *
 obtain ⟨xs,rfl,lx⟩ :=hv.sh
 refine zA fun S q pc hS hq hC hE => ?_
 conv=>whnf
 refine sym_unroll hE hS ?_
 conv=>whnf
 rw [show IntKind.i64.wrap (Int.ofNat u - 0) = Int.ofNat u from wrapN (m :=u) (by omega)]
 refine sym_pure hC (hw u hu) ?_
 conv=>whnf
 rw [kp] at hb
 exact ⟨_,rfl,wkb (by rw [decT hb];exact decide_eq_decide.2 (by omega))⟩
theorem keeps_both {v:AV} {k x y:Nat} (hv:TV v k x y) (n d m:Nat) (hn:n ≤ 50000) (hnd:1 ≤ d ∧ d ≤ 50000) (hm:m ≤ 10800) {w z:AV} {f s:List Int} (hf:IL w f) (hs:IL z s) (of:feOk f) (os:seOk f.length s) (u:Nat) (hu:u ≤ 10000) {b:Bool} (hb:b = true ↔ kp (lastV x y n d m) u 0 (days f s)) :
  Pure prog 70 [nv (lastV x y n d m),w,z,nv u] (.bool b) ∧ Pure prog 79 [v,fv (Int.ofNat n) (Int.ofNat d),nv m,w,z,nv u] (.bool b) :=by
 rcases hs with ⟨rfl,rfl⟩ | rfl
 ·exact ⟨keeps_nil hf _ u hu hb,rKeeps_nil hv n d m hn hnd hm hf u hu hb⟩
 ·have hd :=Days.of of os
  rcases hf with ⟨rfl,rfl⟩ | rfl
  ·have:s = [] :=List.eq_nil_of_length_eq_zero (by have :=hd.sl;simpa using this)
   subst this
   exact ⟨keeps_nil' _ u hu hb,rKeeps_nil' hv n d m hn hnd hm u hu hb⟩
  ·exact ⟨keeps_pure f s hd _ u (lastV_le ..) hu hb,rKeeps_pure hv n d m hn hnd hm f s hd u hu hb⟩
end Go.Abs.Seat

/-! The best of some settings. -/
namespace Go.Abs.Seat
open Go Go.Abs Go.Proofs.Tryz
set_option maxRecDepth 100000
set_option maxHeartbeats 4000000
attribute [local irreducible] pEq
section
attribute [local irreducible] IntKind.wrap
def lexI:List Int → List Int → Int
 | [],[] => 0
 | [],_ :: _ => -1
 | _ :: _,[] => 1
 |a :: r,b :: s => if ordI a b = 0 then lexI r s else ordI a b
def sv:List Int → AV
 | [] => .nils
 |x :: r => nl (x :: r)
theorem sv_no (l:List Int):Live noL (sv l) :=by
 cases l with
 |nil => trivial
 |cons x r => exact nl_no _
theorem lexI_end (a b:List Int) {i:Nat} (hi:i = a.length) (h2:i ≤ b.length):lexI (a.drop i) (b.drop i) = if (a.length:Int) < b.length then -1 else 0 :=by
 subst hi
 rw [List.drop_eq_nil_of_le (Nat.le_refl _)]
 by_cases h:a.length < b.length
 ·rw [if_pos (by omega),drop_gi b h];rfl
 ·rw [if_neg (by omega),List.drop_eq_nil_of_le (by omega)];rfl
theorem lex_pure (a b:List Int) (ha:a.length < 4611686018427387904) (_hb:b.length < 4611686018427387904):Pure prog 75 [nl a,nl b] (iv (lexI a b)) :=by
 have la :=ivs_no a
 have lb :=ivs_no b
 refine zA fun S q pc hS hq hC hE => ?_
 conv=>whnf
 refine sym_loop hE hS (A :=Nat) [0,1,9,10] (fun i => [(11,nv i)]) (fun _ => []) (fun i => i ≤ a.length ∧ i ≤ b.length ∧ lexI (a.drop i) (b.drop i) = lexI a b) (fun i => a.length - i) 0 rfl rfl zD ⟨Nat.zero_le _,Nat.zero_le _,rfl⟩ ?_
 intro i ⟨hi,hj,he⟩
 conv=>whnf
 by_cases h:i < a.length
 ·rw [show decide (Int.ofNat i < ↑a.length) = true from ltN_t h]
  conv=>whnf
  refine bool_true (inR_t (i :=i) (n :=a.length) h) ?_
  conv=>whnf
  refine plan_as (nthP (nth_ivs1 (l :=a) (i :=i) h)) ?_
  conv=>whnf
  by_cases h2:i < b.length
  ·rw [show decide ((b.length:Int) ≤ Int.ofNat i) = false from zF (by show ¬ (b.length:Int) ≤ (i:Int);omega)]
   conv=>whnf
   refine bool_true (inR_t (i :=i) (n :=b.length) h2) ?_
   conv=>whnf
   refine plan_as (nthP (nth_ivs1 (l :=b) (i :=i) h2)) ?_
   conv=>whnf
   refine sym_pure hC (cmp_pure (gi a i) (gi b i)) ?_
   conv=>whnf
   rw [drop_gi a h,drop_gi b h2,lexI] at he
   by_cases h3:ordI (gi a i) (gi b i) = 0
   ·rw [if_pos h3] at he
    rw [show ((ordI (gi a i) (gi b i)) != 0) = false by rw [h3];rfl]
    conv=>whnf
    rw [show IntKind.i64.wrap (Int.ofNat i + 1) = Int.ofNat (i + 1) from wrapN (m :=i + 1) (by omega)]
    exact ⟨i + 1,⟨h,h2,he⟩,by omega,zD⟩
   ·rw [if_neg h3] at he
    rw [show ((ordI (gi a i) (gi b i)) != 0) = true from bne_iff_ne.2 h3]
    conv=>whnf
    rw [he]
    exact ⟨_,rfl,Wk.refl _⟩
  ·rw [show decide ((b.length:Int) ≤ Int.ofNat i) = true from zT (by show (b.length:Int) ≤ (i:Int);omega)]
   conv=>whnf
   have e0:b.drop i = [] :=List.drop_eq_nil_of_le (by omega)
   rw [drop_gi a h,e0] at he
   rw [← he]
   exact ⟨_,rfl,Wk.refl _⟩
 ·rw [show decide (Int.ofNat i < ↑a.length) = false from ltN_f h]
  conv=>whnf
  rw [lexI_end a b (by omega) hj] at he
  by_cases h2:(a.length:Int) < b.length
  ·rw [if_pos h2] at he
   rw [zT h2]
   conv=>whnf
   rw [← he]
   exact ⟨_,rfl,Wk.refl _⟩
  ·rw [if_neg h2] at he
   rw [zF h2]
   conv=>whnf
   rw [← he]
   exact ⟨_,rfl,Wk.refl _⟩
theorem lex_sv (a b:List Int) (ha:a.length < 4611686018427387904) (hb:b.length < 4611686018427387904):Pure prog 75 [sv a,sv b] (iv (lexI a b)) :=by
 have la :=ivs_no a
 have lb :=ivs_no b
 cases a with
 |nil =>
  cases b with
  |nil =>
   show Pure prog _ [.nils,.nils] _
   refine zA fun S q pc hS hq hC hE => ?_
   conv=>whnf
   refine sym_unroll hE hS ?_
   conv=>whnf
   exact ⟨_,rfl,Wk.refl _⟩
  |cons y s =>
   show Pure prog _ [.nils,nl (y :: s)] _
   refine zA fun S q pc hS hq hC hE => ?_
   conv=>whnf
   refine sym_unroll hE hS ?_
   conv=>whnf
   rw [show decide ((0:Int) < ((y :: s).length:Nat)) = true from zT (by simp only [List.length_cons];omega)]
   conv=>whnf
   exact ⟨_,rfl,Wk.refl _⟩
 |cons x r =>
  cases b with
  |nil =>
   show Pure prog _ [nl (x :: r),.nils] _
   refine zA fun S q pc hS hq hC hE => ?_
   conv=>whnf
   refine sym_unroll hE hS ?_
   conv=>whnf
   rw [show decide ((0:Int) < ((x :: r).length:Nat)) = true from zT (by simp only [List.length_cons];omega)]
   conv=>whnf
   refine bool_true (inR_t (i :=0) (n :=(x :: r).length) (Nat.succ_pos _)) ?_
   conv=>whnf
   exact ⟨_,rfl,Wk.refl _⟩
  |cons y s => exact lex_pure (x :: r) (y :: s) ha hb
theorem or_pure (x y:Int):Pure prog 73 [.lst [iv x,iv y] 2 .full] (iv (if x = 0 then y else x)) :=by
 refine zA fun S q pc hS hq hC hE => ?_
 conv=>whnf
 refine sym_unroll hE hS ?_
 conv=>whnf
 by_cases h:x = 0
 ·rw [show (x != 0) = false by rw [h];rfl]
  conv=>whnf
  rw [show IntKind.i64.wrap (0 + 1) = 1 from wrapI (by decide) (by decide)]
  conv=>whnf
  refine sym_unroll hE hS ?_
  conv=>whnf
  rw [if_pos h]
  by_cases h2:y = 0
  ·rw [show (y != 0) = false by rw [h2];rfl]
   conv=>whnf
   rw [show IntKind.i64.wrap (1 + 1) = 2 from wrapI (by decide) (by decide)]
   conv=>whnf
   refine sym_unroll hE hS ?_
   conv=>whnf
   rw [h2]
   exact ⟨_,rfl,Wk.refl _⟩
  ·rw [show (y != 0) = true from bne_iff_ne.2 h2]
   conv=>whnf
   exact ⟨_,rfl,Wk.refl _⟩
 ·rw [show (x != 0) = true from bne_iff_ne.2 h]
  conv=>whnf
  rw [if_neg h]
  exact ⟨_,rfl,Wk.refl _⟩
def seI (a b:List Int):Int :=if ordI a.length b.length = 0 then lexI a b else ordI a.length b.length
end
theorem less_pure (a b:List Int) (ha:a.length < 4611686018427387904) (hb:b.length < 4611686018427387904):Pure prog 72 [sv a,sv b] (.bool (decide (seI a b < 0))) :=by
 have la :=ivs_no a
 have lb :=ivs_no b
 have hx :=lex_sv a b ha hb
 cases a with
 |nil =>
  cases b with
  |nil =>
   have hx:Pure prog _ [.nils,.nils] _ :=hx
   show Pure prog _ [.nils,.nils] _
   refine zA fun S q pc hS hq hC hE => ?_
   conv=>whnf
   refine sym_pure hC (cmp_pure 0 0) ?_
   conv=>whnf
   refine sym_pure hC (hx) ?_
   conv=>whnf
   refine sym_pureW hC (or_pure (ordI 0 0) (lexI [] [])) ?_
   conv=>whnf
   exact ⟨_,rfl,Wk.refl _⟩
  |cons y s =>
   have hx:Pure prog _ [.nils,nl (y :: s)] _ :=hx
   show Pure prog _ [.nils,nl (y :: s)] _
   refine zA fun S q pc hS hq hC hE => ?_
   conv=>whnf
   refine sym_pure hC (cmp_pure 0 (y :: s).length) ?_
   conv=>whnf
   refine sym_pure hC (hx) ?_
   conv=>whnf
   refine sym_pureW hC (or_pure (ordI 0 (y :: s).length) (lexI [] (y :: s))) ?_
   conv=>whnf
   exact ⟨_,rfl,Wk.refl _⟩
 |cons x r =>
  cases b with
  |nil =>
   have hx:Pure prog _ [nl (x :: r),.nils] _ :=hx
   show Pure prog _ [nl (x :: r),.nils] _
   refine zA fun S q pc hS hq hC hE => ?_
   conv=>whnf
   refine sym_pure hC (cmp_pure (x :: r).length 0) ?_
   conv=>whnf
   refine sym_pure hC (hx) ?_
   conv=>whnf
   refine sym_pureW hC (or_pure (ordI (x :: r).length 0) (lexI (x :: r) [])) ?_
   conv=>whnf
   exact ⟨_,rfl,Wk.refl _⟩
  |cons y s =>
   have hx:Pure prog _ [nl (x :: r),nl (y :: s)] _ :=hx
   show Pure prog _ [nl (x :: r),nl (y :: s)] _
   refine zA fun S q pc hS hq hC hE => ?_
   conv=>whnf
   refine sym_pure hC (cmp_pure (x :: r).length (y :: s).length) ?_
   conv=>whnf
   refine sym_pure hC (hx) ?_
   conv=>whnf
   refine sym_pureW hC (or_pure (ordI (x :: r).length (y :: s).length) (lexI (x :: r) (y :: s))) ?_
   conv=>whnf
   exact ⟨_,rfl,Wk.refl _⟩
def svs:List (List Int) → List AV
 | [] => []
 |x :: r => sv x :: svs r
theorem svs_no:∀ l,Lives noL (svs l)
 | [] => trivial
 |x :: r => ⟨sv_no x,svs_no r⟩
theorem svs_len:∀ l,(svs l).length = l.length
 | [] => rfl
 | _ :: r => by simp only [svs,List.length_cons,svs_len r]
abbrev gs (l:List (List Int)) (i:Nat):List Int :=l.getD i []
theorem nth_svs:∀ (l:List (List Int)) (i:Nat),i < l.length → nth (svs l) i = some (sv (gs l i))
 |x :: r,0,_ => rfl
 |x :: r,i + 1,h => nth_svs r i (by simpa using h)
 | [],i,h => absurd h (Nat.not_lt_zero _)
def bstS:List (List Int) → List Int
 | [] => []
 |x :: r => r.foldl (fun o y => if seI y o < 0 then y else o) x
theorem bstS_snoc (l:List (List Int)) (y:List Int):bstS (l ++ [y]) = if l = [] ∨ seI y (bstS l) < 0 then y else bstS l :=by
 cases l with
 |nil => rw [if_pos (.inl rfl)];rfl
 |cons x r =>
  show (r ++ [y]).foldl _ x = _
  rw [List.foldl_append]
  show (if seI y (bstS (x :: r)) < 0 then y else bstS (x :: r)) = _
  by_cases h:seI y (bstS (x :: r)) < 0
  ·rw [if_pos h,if_pos (.inr h)]
  ·rw [if_neg h,if_neg (by rintro (k | k);cases k;exact h k)]
theorem bstS_len {n:Nat} (hn:0 < n):∀ (l:List (List Int)),(∀ x,x ∈ l → x.length < n) → (bstS l).length < n
 | [],_ => hn
 |x :: r,h => by
  have:∀ (r:List (List Int)) (o:List Int),o.length < n → (∀ x,x ∈ r → x.length < n) → (r.foldl (fun o y => if seI y o < 0 then y else o) o).length < n :=by
   intro r
   induction r with
   |nil => intro o ho _;exact ho
   |cons y r ih =>
    intro o ho hr
    refine ih _ ?_ fun x hx => hr x (List.mem_cons_of_mem _ hx)
    show (if seI y o < 0 then y else o).length < n
    split
    ·exact hr y List.mem_cons_self
    ·exact ho
  exact this r x (h x List.mem_cons_self) fun x hx => h x (List.mem_cons_of_mem _ hx)
end Go.Abs.Seat

/-! Chains as fractions. -/
namespace Go.Abs.Seat
open Go Go.Abs Go.Proofs.Tryz
set_option maxRecDepth 100000
set_option maxHeartbeats 4000000
attribute [local irreducible] IntKind.wrap pEq
def zl (l:List Nat):List Int :=l.map Int.ofNat
theorem zl_len (l:List Nat):(zl l).length = l.length :=List.length_map _
theorem zl_gi (l:List Nat) {i:Nat} (h:i < l.length):gi (zl l) i = Int.ofNat (l.getD i 0) :=by
 simp [gi,zl,List.getD,h]
def chAt (l:List Int) (i:Nat):Prop :=(if i = 0 then 0 else 1) ≤ gi l i ∧ gi l i ≤ 50000
def chOk (l:List Int):Prop :=(∀ i,i < l.length → chAt l i) ∧ 1 ≤ l.length ∧ l.length ≤ 24
end Go.Abs.Seat

/-! The fraction of a chain: Fold. -/
namespace Go.Abs.Seat
open Go Go.Abs Go.Proofs.Tryz
set_option maxRecDepth 100000
set_option maxHeartbeats 4000000
attribute [local irreducible] IntKind.wrap pEq
end Go.Abs.Seat

/-! The fraction of a chain: the document's. -/
namespace Go.Abs.Seat
open Go Go.Abs Go.Proofs.Tryz
set_option maxRecDepth 100000
set_option maxHeartbeats 4000000
attribute [local irreducible] IntKind.wrap pEq
structure ChN (l:List Nat):Prop where
 hx:∀ i,i < l.length → l.getD i 0 ≤ 50000
 hp:∀ i,1 ≤ i → i < l.length → 1 ≤ l.getD i 0
 h1:1 ≤ l.length ∧ l.length ≤ 24
theorem ChN.of {l:List Nat} (hc:chOk (zl l)):ChN l :=by
 have hz :=zl_len l
 refine ⟨fun i hi => ?_,fun i h1 hi => ?_,by have :=hc.2;omega⟩
 ·have :=(hc.1 i (by omega)).2
  rw [zl_gi l hi] at this
  exact Int.ofNat_le.1 this
 ·have :=(hc.1 i (by omega)).1
  rw [zl_gi l hi,if_neg (by omega)] at this
  exact Int.ofNat_le.1 this
end Go.Abs.Seat

/-! Where a hand that is set is. -/
namespace Go.Abs.Seat
open Go Go.Abs Go.Proofs.Tryz
set_option maxRecDepth 100000
set_option maxHeartbeats 4000000
attribute [local irreducible] IntKind.wrap pEq
end Go.Abs.Seat

/-! Chains of fractions. -/
namespace Go.Abs.Seat
open Go Go.Abs Go.Proofs.Tryz
set_option maxRecDepth 100000
set_option maxHeartbeats 4000000
attribute [local irreducible] IntKind.wrap pEq
theorem zl_app (l:List Nat) (q:Nat):ivs (zl (l ++ [q])) = ivs (zl l) ++ [nv q] :=by
 induction l with
 |nil => rfl
 |cons x l ih => simp only [List.cons_append,zl,List.map_cons,ivs];exact congrArg _ ih
theorem app_ok (l:List Nat) (q c:Nat):AV.lst (ivs (zl l) ++ [nv q]) (l.length + (0 + 1)) (.ch c) = .lst (ivs (zl (l ++ [q]))) (l ++ [q]).length (.ch c) :=by
 rw [zl_app,List.length_append];rfl
theorem app_ch (l:List Nat) (q:Nat):AObj.chain (l.length + (0 + 1)) 1 3 = .chain (l ++ [q]).length 1 3 :=by
 rw [List.length_append];rfl
theorem lenIs_eq:∀ (l:List AV),lenIs l l.length = true
 | [] => rfl
 | _ :: r => lenIs_eq r
theorem lenIs_zl (l:List Nat):lenIs (ivs (zl l)) (l.length * 1) = true :=by
 have :=lenIs_eq (ivs (zl l))
 rw [ivs_len,zl_len] at this
 rw [Nat.mul_one];exact this
theorem wkl_ivs:∀ l:List Int,wkl (ivs l) = ivs l
 | [] => rfl
 |x :: r => by simp only [ivs,wkl,wk,wkl_ivs r]
theorem wk_tup {x y:AV} {r:List AV} (h:Wk x y):Wk (.tup (x :: r)) (.tup (y :: r)) :=by
 intro g w u hu
 obtain ⟨vs,e,h1⟩ :=hu
 obtain ⟨a,bs,e2,h2,h3⟩ :=h1
 exact ⟨vs,e,a,bs,e2,h g w a h2,h3⟩
end Go.Abs.Seat

/-! Lists held against each other; a chain's fraction has that chain. -/
namespace Go.Abs.Seat
open Go Go.Abs Go.Proofs.Tryz
set_option maxRecDepth 100000
set_option maxHeartbeats 4000000
attribute [local irreducible] IntKind.wrap pEq
end Go.Abs.Seat

/-! The document's chain. -/
namespace Go.Abs.Seat
open Go Go.Abs Go.Proofs.Tryz
set_option maxRecDepth 100000
set_option maxHeartbeats 4000000
attribute [local irreducible] IntKind.wrap pEq
theorem wk_own {xs:List AV} {n m:Nat} {own:Own} (e:n = m):Wk (.lst xs n own) (.lst xs m .no) :=by
 subst e
 intro g w u hu
 simp only [VRel] at hu ⊢
 obtain ⟨b,off,cap,h1,h2,h3,h4,_⟩ :=hu
 exact ⟨b,off,cap,h1,h2,h3,h4,trivial⟩
theorem pSrc_eq {T:Tr TypeInfo} {tx e:TypeId} {sz:Nat} {x:AV} {k:List AV → Nat → Plan} {ys l:List AV} {m:Nat} {own:Own} (hT:tyU T tx = some (.slice e)) (hx:x = .lst ys m own) (ht:takeN (m * sz) ys = some l):pSrc T tx sz x k = .chk (allCells l) (k l m) :=by
 subst hx
 unfold pSrc
 simp only [hT,ht]
theorem allCells_ivs:∀ l:List Int,allCells (ivs l) = true
 | [] => rfl
 | _ :: r => allCells_ivs r
theorem takeN_all:∀ l:List AV,takeN l.length l = some l
 | [] => rfl
 |x :: r => by rw [List.length_cons,takeN,takeN_all r]
theorem takeN_ivs (l:List Int):takeN (l.length * 1) (ivs l) = some (ivs l) :=by
 have :=takeN_all (ivs l)
 rwa [ivs_len,← Nat.mul_one l.length] at this
end Go.Abs.Seat

/-! Rules: whether they are as defined, and their numbers of teeth. -/
namespace Go.Abs.Seat
noncomputable section
open Go Go.Abs Go.Proofs.Tryz
set_option maxRecDepth 100000
set_option maxHeartbeats 40000000
theorem sense_wrap (s:Int) (hs:-9223372036854775808 ≤ s ∧ s < 9223372036854775808):decide (0 ≤ IntKind.i64.wrap (s - 1) ∧ IntKind.i64.wrap (s - 1) ≤ 2) = decide (1 ≤ s ∧ s ≤ 3) :=by
 by_cases k:s = -9223372036854775808
 ·subst k;decide
 ·rw [wrapI (by omega) (by omega)]
  exact decide_eq_decide.2 (by omega)
attribute [local irreducible] IntKind.wrap pEq
def fbad:List Int → Int → Int
 | [],_ => -1
 |x :: r,i => if tth x then fbad r (i + 1) else i
def allT (l:List Int):Prop :=∀ i,i < l.length → tth (gi l i)
instance (l:List Int):Decidable (allT l) :=Classical.propDecidable _
theorem allT_cons {x:Int} {r:List Int}:allT (x :: r) ↔ tth x ∧ allT r :=
 ⟨fun h => ⟨h 0 (Nat.succ_pos _),fun i hi => h (i + 1) (by simpa using hi)⟩,fun h i hi => by
  cases i with
  |zero => exact h.1
  |succ i => exact h.2 i (by simpa using hi)⟩
theorem fbad_ge:∀ (l:List Int) (i:Int),0 ≤ i → decide (fbad l i ≥ 0) = !(decide (allT l))
 | [],i,_ => by
  rw [zT (show allT [] from fun _ h => absurd h (Nat.not_lt_zero _))]
  rfl
 |x :: r,i,h => by
  rw [fbad]
  by_cases hx:tth x
  ·rw [if_pos hx,fbad_ge r (i + 1) (by omega)]
   by_cases hr:allT r
   ·rw [zT hr,zT (allT_cons.2 ⟨hx,hr⟩)]
   ·rw [zF hr,zF fun k => hr (allT_cons.1 k).2]
  ·rw [if_neg hx,zT h,zF fun k => hx (allT_cons.1 k).1];rfl
theorem isBad_pure (a:Int):Pure prog 129 [iv a] (.bool (!(decide (tth a)))) :=by
 refine zA fun S q pc hS hq hC hE => ?_
 conv=>whnf
 refine sym_pure hC (isTeeth_pure a) ?_
 conv=>whnf
 exact ⟨_,rfl,Wk.refl _⟩
theorem idxBad_pure (l:List Int) (hl:l.length < 4611686018427387904):Pure prog 154 [nl l,.func (.func 129) [] []] (iv (fbad l 0)) :=by
 have ll :=ivs_no l
 refine zA fun S q pc hS hq hC hE => ?_
 conv=>whnf
 refine sym_loop hE hS (A :=Nat) [0,1,7] (fun i => [(8,nv i)]) (fun _ => []) (fun i => i ≤ l.length ∧ fbad (l.drop i) i = fbad l 0) (fun i => l.length - i) 0 rfl rfl zD ⟨Nat.zero_le _,rfl⟩ ?_
 intro i ⟨hi,he⟩
 conv=>whnf
 by_cases h:i < l.length
 ·rw [show decide (Int.ofNat i < ↑l.length) = true from ltN_t h]
  conv=>whnf
  refine bool_true (inR_t (i :=i) (n :=l.length) h) ?_
  conv=>whnf
  refine plan_as (nthP (nth_ivs1 (l :=l) (i :=i) h)) ?_
  conv=>whnf
  refine sym_pure hC (isBad_pure (gi l i)) ?_
  conv=>whnf
  rw [drop_gi l h,fbad] at he
  by_cases h1:tth (gi l i)
  ·rw [zT h1]
   rw [if_pos h1] at he
   conv=>whnf
   rw [show IntKind.i64.wrap (Int.ofNat i + 1) = Int.ofNat (i + 1) from wrapN (m :=i + 1) (by omega)]
   exact ⟨i + 1,⟨h,he⟩,by omega,zD⟩
  ·rw [zF h1]
   rw [if_neg h1] at he
   conv=>whnf
   rw [← he]
   exact ⟨_,rfl,Wk.refl _⟩
 ·rw [show decide (Int.ofNat i < ↑l.length) = false from ltN_f h]
  conv=>whnf
  rw [List.drop_eq_nil_of_le (by omega),fbad] at he
  rw [← he]
  exact ⟨_,rfl,Wk.refl _⟩
theorem idxBad_nils:Pure prog 154 [.nils,.func (.func 129) [] []] (iv (-1)) :=by
 refine zA fun S q pc hS hq hC hE => ?_
 conv=>whnf
 refine sym_unroll hE hS ?_
 conv=>whnf
 exact ⟨_,rfl,Wk.refl _⟩
theorem hasBad_pure {v:AV} {l:List Int} (h:IL v l) (hl:l.length < 4611686018427387904):Pure prog 128 [v,.func (.func 129) [] []] (.bool (!(decide (allT l)))) :=by
 have lv :=h.no
 rcases h with ⟨rfl,rfl⟩ | rfl
 ·rw [zT (show allT [] from fun _ h => absurd h (Nat.not_lt_zero _))]
  refine zA fun S q pc hS hq hC hE => ?_
  conv=>whnf
  refine sym_pure hC (idxBad_nils) ?_
  conv=>whnf
  exact ⟨_,rfl,Wk.refl _⟩
 ·refine zA fun S q pc hS hq hC hE => ?_
  conv=>whnf
  refine sym_pure hC (idxBad_pure l hl) ?_
  conv=>whnf
  rw [fbad_ge l 0 (Int.le_refl _)]
  exact ⟨_,rfl,Wk.refl _⟩
def fidx:List Int → Int → Int → Int
 | [],_,_ => -1
 |y :: r,x,i => if x = y then i else fidx r x (i + 1)
theorem fidx_ge:∀ (l:List Int) (x i:Int),0 ≤ i → decide (fidx l x i ≥ 0) = decide (x ∈ l)
 | [],x,i,_ => by rw [zF (show ¬ x ∈ [] from List.not_mem_nil)];rfl
 |y :: r,x,i,h => by
  rw [fidx]
  by_cases hx:x = y
  ·rw [if_pos hx,zT h,zT (by rw [hx];exact List.mem_cons_self)]
  ·rw [if_neg hx,fidx_ge r x (i + 1) (by omega)]
   exact decide_eq_decide.2 ⟨List.mem_cons_of_mem _,fun k => (List.mem_cons.1 k).resolve_left hx⟩
theorem index_pure (l:List Int) (x:Int) (hl:l.length < 4611686018427387904):Pure prog 155 [nl l,iv x] (iv (fidx l x 0)) :=by
 have ll :=ivs_no l
 refine zA fun S q pc hS hq hC hE => ?_
 conv=>whnf
 refine sym_loop hE hS (A :=Nat) [0,1,7] (fun i => [(8,nv i)]) (fun _ => []) (fun i => i ≤ l.length ∧ fidx (l.drop i) x i = fidx l x 0) (fun i => l.length - i) 0 rfl rfl zD ⟨Nat.zero_le _,rfl⟩ ?_
 intro i ⟨hi,he⟩
 conv=>whnf
 by_cases h:i < l.length
 ·rw [show decide (Int.ofNat i < ↑l.length) = true from ltN_t h]
  conv=>whnf
  refine bool_true (inR_t (i :=i) (n :=l.length) h) ?_
  conv=>whnf
  refine plan_as (nthP (nth_ivs1 (l :=l) (i :=i) h)) ?_
  conv=>whnf
  rw [drop_gi l h,fidx] at he
  by_cases h1:x = gi l i
  ·rw [show (x == gi l i) = true from beq_iff_eq.2 h1]
   conv=>whnf
   rw [if_pos h1] at he
   rw [← he]
   exact ⟨_,rfl,Wk.refl _⟩
  ·rw [show (x == gi l i) = false from beq_eq_false_iff_ne.2 h1]
   conv=>whnf
   rw [if_neg h1] at he
   rw [show IntKind.i64.wrap (Int.ofNat i + 1) = Int.ofNat (i + 1) from wrapN (m :=i + 1) (by omega)]
   exact ⟨i + 1,⟨h,he⟩,by omega,zD⟩
 ·rw [show decide (Int.ofNat i < ↑l.length) = false from ltN_f h]
  conv=>whnf
  rw [List.drop_eq_nil_of_le (by omega),fidx] at he
  rw [← he]
  exact ⟨_,rfl,Wk.refl _⟩
theorem index_nils (x:Int):Pure prog 155 [.nils,iv x] (iv (-1)) :=by
 refine zA fun S q pc hS hq hC hE => ?_
 conv=>whnf
 refine sym_unroll hE hS ?_
 conv=>whnf
 exact ⟨_,rfl,Wk.refl _⟩
theorem contains_pure {v:AV} {l:List Int} (h:IL v l) (hl:l.length < 4611686018427387904) (x:Int):Pure prog 130 [v,iv x] (.bool (decide (x ∈ l))) :=by
 have lv :=h.no
 rcases h with ⟨rfl,rfl⟩ | rfl
 ·rw [zF (show ¬ x ∈ [] from List.not_mem_nil)]
  refine zA fun S q pc hS hq hC hE => ?_
  conv=>whnf
  refine sym_pure hC (index_nils x) ?_
  conv=>whnf
  exact ⟨_,rfl,Wk.refl _⟩
 ·refine zA fun S q pc hS hq hC hE => ?_
  conv=>whnf
  refine sym_pure hC (index_pure l x hl) ?_
  conv=>whnf
  rw [fidx_ge l x 0 (Int.le_refl _)]
  exact ⟨_,rfl,Wk.refl _⟩
abbrev rv (a b p s:Int) (N:AV):AV :=.agg [iv a,iv b,iv p,iv s,N]
def rOk (a b p s:Int) (l:List Int):Prop :=tth a ∧ tth b ∧ a ≤ b ∧ (1 ≤ p ∧ p ≤ 3) ∧ (1 ≤ s ∧ s ≤ 3) ∧ l.length ≤ 6 ∧ allT l
theorem isRule_pure {N:AV} {l:List Int} (h:IL N l) (hl:l.length < 4611686018427387904) (a b p s:Int) (hs:-9223372036854775808 ≤ s ∧ s < 9223372036854775808) {r:Bool} (hr:r = true ↔ rOk a b p s l) :
  Pure prog 82 [rv a b p s N] (.bool r) :=by
 have lv :=h.no
 have hb :=hasBad_pure h hl
 have hw :=sense_wrap s hs
 have nx:¬ rOk a b p s l → r = false :=fun k => bfalse hr k
 have h6:∀ (h1:tth a) (h2:tth b) (h3:a ≤ b) (h4:1 ≤ p ∧ p ≤ 3) (h5:1 ≤ s ∧ s ≤ 3) (h6:l.length ≤ 6),r = decide (allT l) :=fun h1 h2 h3 h4 h5 h6 => by
  by_cases h7:allT l
  ·rw [hr.2 ⟨h1,h2,h3,h4,h5,h6,h7⟩,zT h7]
  ·rw [nx fun k => h7 k.2.2.2.2.2.2,zF h7]
 rcases h with ⟨rfl,rfl⟩ | rfl
 ·refine zA fun S q pc hS hq hC hE => ?_
  conv=>whnf
  refine sym_pure hC (isTeeth_pure a) ?_
  conv=>whnf
  by_cases h1:tth a
  ·rw [zT h1]
   conv=>whnf
   refine sym_pure hC (isTeeth_pure b) ?_
   conv=>whnf
   by_cases h2:tth b
   ·rw [zT h2]
    conv=>whnf
    by_cases h3:a ≤ b
    ·rw [zT h3]
     conv=>whnf
     refine sym_pure hC (in_pure p 1 3) ?_
     conv=>whnf
     by_cases h4:1 ≤ p ∧ p ≤ 3
     ·rw [zT h4]
      conv=>whnf
      refine sym_pure hC (in_pure (IntKind.i64.wrap (s - 1)) 0 2) ?_
      conv=>whnf
      rw [hw]
      by_cases h5:1 ≤ s ∧ s ≤ 3
      ·rw [zT h5]
       conv=>whnf
       refine sym_pure hC (hb) ?_
       conv=>whnf
       rw [h6 h1 h2 h3 h4 h5 (by decide)]
       cases decide (allT [])
       ·conv=>whnf
        exact ⟨_,rfl,Wk.refl _⟩
       ·conv=>whnf
        exact ⟨_,rfl,Wk.refl _⟩
      ·rw [zF h5]
       conv=>whnf
       rw [nx fun k => h5 k.2.2.2.2.1]
       exact ⟨_,rfl,Wk.refl _⟩
     ·rw [zF h4]
      conv=>whnf
      rw [nx fun k => h4 k.2.2.2.1]
      exact ⟨_,rfl,Wk.refl _⟩
    ·rw [zF h3]
     conv=>whnf
     rw [nx fun k => h3 k.2.2.1]
     exact ⟨_,rfl,Wk.refl _⟩
   ·rw [zF h2]
    conv=>whnf
    rw [nx fun k => h2 k.2.1]
    exact ⟨_,rfl,Wk.refl _⟩
  ·rw [zF h1]
   conv=>whnf
   rw [nx fun k => h1 k.1]
   exact ⟨_,rfl,Wk.refl _⟩
 ·refine zA fun S q pc hS hq hC hE => ?_
  conv=>whnf
  refine sym_pure hC (isTeeth_pure a) ?_
  conv=>whnf
  by_cases h1:tth a
  ·rw [zT h1]
   conv=>whnf
   refine sym_pure hC (isTeeth_pure b) ?_
   conv=>whnf
   by_cases h2:tth b
   ·rw [zT h2]
    conv=>whnf
    by_cases h3:a ≤ b
    ·rw [zT h3]
     conv=>whnf
     refine sym_pure hC (in_pure p 1 3) ?_
     conv=>whnf
     by_cases h4:1 ≤ p ∧ p ≤ 3
     ·rw [zT h4]
      conv=>whnf
      refine sym_pure hC (in_pure (IntKind.i64.wrap (s - 1)) 0 2) ?_
      conv=>whnf
      rw [hw]
      by_cases h5:1 ≤ s ∧ s ≤ 3
      ·rw [zT h5]
       conv=>whnf
       by_cases h7:l.length ≤ 6
       ·rw [zT (show (l.length:Int) ≤ 6 by omega)]
        conv=>whnf
        refine sym_pure hC (hb) ?_
        conv=>whnf
        rw [h6 h1 h2 h3 h4 h5 h7]
        cases decide (allT l)
        ·conv=>whnf
         exact ⟨_,rfl,Wk.refl _⟩
        ·conv=>whnf
         exact ⟨_,rfl,Wk.refl _⟩
       ·rw [zF (show ¬ (l.length:Int) ≤ 6 by omega)]
        conv=>whnf
        rw [nx fun k => h7 k.2.2.2.2.2.1]
        exact ⟨_,rfl,Wk.refl _⟩
      ·rw [zF h5]
       conv=>whnf
       rw [nx fun k => h5 k.2.2.2.2.1]
       exact ⟨_,rfl,Wk.refl _⟩
     ·rw [zF h4]
      conv=>whnf
      rw [nx fun k => h4 k.2.2.2.1]
      exact ⟨_,rfl,Wk.refl _⟩
    ·rw [zF h3]
     conv=>whnf
     rw [nx fun k => h3 k.2.2.1]
     exact ⟨_,rfl,Wk.refl _⟩
   ·rw [zF h2]
    conv=>whnf
    rw [nx fun k => h2 k.2.1]
    exact ⟨_,rfl,Wk.refl _⟩
  ·rw [zF h1]
   conv=>whnf
   rw [nx fun k => h1 k.1]
   exact ⟨_,rfl,Wk.refl _⟩
end
end Go.Abs.Seat

/-! The best of some settings. -/
namespace Go.Abs.Seat
open Go Go.Abs Go.Proofs.Tryz
set_option maxRecDepth 100000
set_option maxHeartbeats 4000000
attribute [local irreducible] IntKind.wrap pEq
abbrev sl (l:List (List Int)):AV :=.lst (svs l) l.length .no
theorem nth_svs1 {l:List (List Int)} {i:Nat} (h:i < l.length):nth (svs l) (i * 1) = some (sv (gs l i)) :=by rw [Nat.mul_one];exact nth_svs l i h
theorem take_gs (l:List (List Int)) {i:Nat} (h:i < l.length):l.take (i + 1) = l.take i ++ [gs l i] :=by
 rw [List.take_succ_eq_append_getElem h]
 simp [gs,List.getD,h]
theorem take_ne {l:List (List Int)} {i:Nat} (h:i < l.length):¬ l.take (i + 1) = [] :=fun e => by
 have :=congrArg List.length e
 rw [List.length_take,List.length_nil] at this;omega
theorem gs_mem (l:List (List Int)) {i:Nat} (h:i < l.length):gs l i ∈ l :=by
 have e:gs l i = l[i] :=by simp [gs,List.getD,h]
 rw [e];exact List.getElem_mem h
theorem sv_cases (x:List Int):x = [] ∧ sv x = .nils ∨ sv x = nl x :=by
 cases x with
 |nil => exact .inl ⟨rfl,rfl⟩
 |cons _ _ => exact .inr rfl
theorem bestL_pure (l:List (List Int)) (hl:l.length < 4611686018427387904) (hx:∀ x,x ∈ l → x.length < 4611686018427387904) :
  Pure prog 71 [sl l,.func (.func 72) [] []] (.tup [sv (bstS l),.bool (decide ((l.length:Int) > 0))]) :=by
 have ls :=svs_no l
 have lo :=sv_no (bstS l)
 refine zA fun S q pc hS hq hC hE => ?_
 conv=>whnf
 refine sym_loop hE hS (A :=Nat × AV) [0,1,9,10] (fun (i,v) => [(6,v),(11,nv i)]) (fun _ => []) (fun (i,v) => i ≤ l.length ∧ v = sv (bstS (l.take i))) (fun (i,_) => l.length - i) (0,.nils) rfl rfl zD ⟨Nat.zero_le _,rfl⟩ ?_
 rintro ⟨i,v⟩ ⟨hi,rfl⟩
 rcases sv_cases (bstS (l.take i)) with ⟨_,eo⟩ | eo
 ·rw [eo]
  conv=>whnf
  by_cases h:i < l.length
  ·have hn :=nth_svs1 h
   have hv :=congrArg sv (congrArg bstS (take_gs l h))
   rw [show decide (Int.ofNat i < ↑l.length) = true from ltN_t h]
   conv=>whnf
   refine bool_true (inR_t (i :=i) (n :=l.length) h) ?_
   conv=>whnf
   have lg :=ivs_no (gs l i)
   rcases sv_cases (gs l i) with ⟨_,eg⟩ | eg
   ·rw [eg] at hn
    refine plan_as (nthP hn) ?_
    conv=>whnf
    cases i with
    |zero =>
     conv=>whnf
     rw [show IntKind.i64.wrap (Int.ofNat 0 + 1) = 1 from wrapI (by decide) (by decide)]
     conv=>whnf
     exact ⟨(1,_),⟨h,by rw [hv,bstS_snoc,if_pos (.inl rfl),eg]⟩,by show l.length - 1 < l.length - 0;omega,zD⟩
    |succ i =>
     conv=>whnf
     rw [show (Int.ofNat (i + 1) == 0) = false from rfl]
     conv=>whnf
     have hc :=less_pure (gs l (i + 1)) (bstS (l.take (i + 1))) (hx _ (gs_mem l h)) (bstS_len (by omega) _ fun x k => hx x (List.mem_of_mem_take k))
     rw [eg,eo] at hc
     refine sym_pure hC (hc) ?_
     conv=>whnf
     rw [bstS_snoc] at hv
     have hi1:IntKind.i64.wrap (Int.ofNat (i + 1) + 1) = Int.ofNat (i + 2) :=wrapN (m :=i + 2) (by omega)
     by_cases h3:seI (gs l (i + 1)) (bstS (l.take (i + 1))) < 0
     ·rw [zT h3]
      conv=>whnf
      rw [hi1]
      exact ⟨(i + 2,_),⟨h,by rw [hv,if_pos (.inr h3),eg]⟩,by show l.length - (i + 2) < l.length - (i + 1);omega,zD⟩
     ·rw [zF h3]
      conv=>whnf
      rw [hi1]
      exact ⟨(i + 2,_),⟨h,by rw [hv,if_neg (by rintro (k | k);exact take_ne (by omega) k;exact h3 k),eo]⟩,by show l.length - (i + 2) < l.length - (i + 1);omega,zD⟩
   ·rw [eg] at hn
    refine plan_as (nthP hn) ?_
    conv=>whnf
    cases i with
    |zero =>
     conv=>whnf
     rw [show IntKind.i64.wrap (Int.ofNat 0 + 1) = 1 from wrapI (by decide) (by decide)]
     conv=>whnf
     exact ⟨(1,_),⟨h,by rw [hv,bstS_snoc,if_pos (.inl rfl),eg]⟩,by show l.length - 1 < l.length - 0;omega,zD⟩
    |succ i =>
     conv=>whnf
     rw [show (Int.ofNat (i + 1) == 0) = false from rfl]
     conv=>whnf
     have hc :=less_pure (gs l (i + 1)) (bstS (l.take (i + 1))) (hx _ (gs_mem l h)) (bstS_len (by omega) _ fun x k => hx x (List.mem_of_mem_take k))
     rw [eg,eo] at hc
     refine sym_pure hC (hc) ?_
     conv=>whnf
     rw [bstS_snoc] at hv
     have hi1:IntKind.i64.wrap (Int.ofNat (i + 1) + 1) = Int.ofNat (i + 2) :=wrapN (m :=i + 2) (by omega)
     by_cases h3:seI (gs l (i + 1)) (bstS (l.take (i + 1))) < 0
     ·rw [zT h3]
      conv=>whnf
      rw [hi1]
      exact ⟨(i + 2,_),⟨h,by rw [hv,if_pos (.inr h3),eg]⟩,by show l.length - (i + 2) < l.length - (i + 1);omega,zD⟩
     ·rw [zF h3]
      conv=>whnf
      rw [hi1]
      exact ⟨(i + 2,_),⟨h,by rw [hv,if_neg (by rintro (k | k);exact take_ne (by omega) k;exact h3 k),eo]⟩,by show l.length - (i + 2) < l.length - (i + 1);omega,zD⟩
  ·rw [show decide (Int.ofNat i < ↑l.length) = false from ltN_f h]
   conv=>whnf
   have et:l.take i = l :=List.take_of_length_le (by omega)
   try rw [et]
   rw [et] at eo
   rw [eo]
   exact ⟨_,rfl,Wk.refl _⟩
 ·have lq :=ivs_no (bstS (l.take i))
  rw [eo]
  conv=>whnf
  by_cases h:i < l.length
  ·have hn :=nth_svs1 h
   have hv :=congrArg sv (congrArg bstS (take_gs l h))
   rw [show decide (Int.ofNat i < ↑l.length) = true from ltN_t h]
   conv=>whnf
   refine bool_true (inR_t (i :=i) (n :=l.length) h) ?_
   conv=>whnf
   have lg :=ivs_no (gs l i)
   rcases sv_cases (gs l i) with ⟨_,eg⟩ | eg
   ·rw [eg] at hn
    refine plan_as (nthP hn) ?_
    conv=>whnf
    cases i with
    |zero =>
     conv=>whnf
     rw [show IntKind.i64.wrap (Int.ofNat 0 + 1) = 1 from wrapI (by decide) (by decide)]
     conv=>whnf
     exact ⟨(1,_),⟨h,by rw [hv,bstS_snoc,if_pos (.inl rfl),eg]⟩,by show l.length - 1 < l.length - 0;omega,zD⟩
    |succ i =>
     conv=>whnf
     rw [show (Int.ofNat (i + 1) == 0) = false from rfl]
     conv=>whnf
     have hc :=less_pure (gs l (i + 1)) (bstS (l.take (i + 1))) (hx _ (gs_mem l h)) (bstS_len (by omega) _ fun x k => hx x (List.mem_of_mem_take k))
     rw [eg,eo] at hc
     refine sym_pure hC (hc) ?_
     conv=>whnf
     rw [bstS_snoc] at hv
     have hi1:IntKind.i64.wrap (Int.ofNat (i + 1) + 1) = Int.ofNat (i + 2) :=wrapN (m :=i + 2) (by omega)
     by_cases h3:seI (gs l (i + 1)) (bstS (l.take (i + 1))) < 0
     ·rw [zT h3]
      conv=>whnf
      rw [hi1]
      exact ⟨(i + 2,_),⟨h,by rw [hv,if_pos (.inr h3),eg]⟩,by show l.length - (i + 2) < l.length - (i + 1);omega,zD⟩
     ·rw [zF h3]
      conv=>whnf
      rw [hi1]
      exact ⟨(i + 2,_),⟨h,by rw [hv,if_neg (by rintro (k | k);exact take_ne (by omega) k;exact h3 k),eo]⟩,by show l.length - (i + 2) < l.length - (i + 1);omega,zD⟩
   ·rw [eg] at hn
    refine plan_as (nthP hn) ?_
    conv=>whnf
    cases i with
    |zero =>
     conv=>whnf
     rw [show IntKind.i64.wrap (Int.ofNat 0 + 1) = 1 from wrapI (by decide) (by decide)]
     conv=>whnf
     exact ⟨(1,_),⟨h,by rw [hv,bstS_snoc,if_pos (.inl rfl),eg]⟩,by show l.length - 1 < l.length - 0;omega,zD⟩
    |succ i =>
     conv=>whnf
     rw [show (Int.ofNat (i + 1) == 0) = false from rfl]
     conv=>whnf
     have hc :=less_pure (gs l (i + 1)) (bstS (l.take (i + 1))) (hx _ (gs_mem l h)) (bstS_len (by omega) _ fun x k => hx x (List.mem_of_mem_take k))
     rw [eg,eo] at hc
     refine sym_pure hC (hc) ?_
     conv=>whnf
     rw [bstS_snoc] at hv
     have hi1:IntKind.i64.wrap (Int.ofNat (i + 1) + 1) = Int.ofNat (i + 2) :=wrapN (m :=i + 2) (by omega)
     by_cases h3:seI (gs l (i + 1)) (bstS (l.take (i + 1))) < 0
     ·rw [zT h3]
      conv=>whnf
      rw [hi1]
      exact ⟨(i + 2,_),⟨h,by rw [hv,if_pos (.inr h3),eg]⟩,by show l.length - (i + 2) < l.length - (i + 1);omega,zD⟩
     ·rw [zF h3]
      conv=>whnf
      rw [hi1]
      exact ⟨(i + 2,_),⟨h,by rw [hv,if_neg (by rintro (k | k);exact take_ne (by omega) k;exact h3 k),eo]⟩,by show l.length - (i + 2) < l.length - (i + 1);omega,zD⟩
  ·rw [show decide (Int.ofNat i < ↑l.length) = false from ltN_f h]
   conv=>whnf
   have et:l.take i = l :=List.take_of_length_le (by omega)
   try rw [et]
   rw [et] at eo
   rw [eo]
   exact ⟨_,rfl,Wk.refl _⟩
end Go.Abs.Seat
