/-
  What a train turns its hand by.
-/
import Derived.Test.YtcnidgafdonioaaGreatVT2
import Derived.Test.YtcnidgafdonioaaGreatVU4
namespace Go.Abs.Seat
open Go Go.Abs Go.Proofs.Tryz
set_option maxRecDepth 100000
set_option maxHeartbeats 4000000
attribute [local irreducible] IntKind.wrap pEq
theorem mul1N {a:Nat} (h:a < 9223372036854775808):IntKind.i64.wrap (1 * Int.ofNat a) = Int.ofNat (1 * a) :=mulN (a :=1) (b :=a) (by omega)
theorem product1 (a0:Nat) (h0:a0 ≤ 60):Pure prog 135 [.lst [nv a0] 1 .no] (nv (1 * a0)) :=by
 refine pure_sym hE rfl ⟨⟨⟨trivial,trivial⟩,fun _ h => nomatch h⟩,trivial⟩ trivial fun S q pc hS hq hC hE => ?_
 conv => whnf
 refine sym_unroll hE hS ?_
 conv => whnf
 rw [show IntKind.i64.wrap (0 + 1) = 1 from wrapI (by decide) (by decide),mul1N (a :=a0) (by omega)]
 refine sym_unroll hE hS ?_
 conv => whnf
 exact ⟨_,rfl,Wk.refl _⟩
theorem product2 (a0 a1:Nat) (h0:a0 ≤ 60) (h1:a1 ≤ 60):Pure prog 135 [.lst [nv a0,nv a1] 2 .no] (nv (1 * a0 * a1)) :=by
 refine pure_sym hE rfl ⟨⟨⟨trivial,trivial,trivial⟩,fun _ h => nomatch h⟩,trivial⟩ trivial fun S q pc hS hq hC hE => ?_
 have q1:1 * a0 * a1 ≤ 60 * 60 :=Nat.mul_le_mul (show 1 * a0 ≤ 60 by omega) (by omega)
 conv => whnf
 refine sym_unroll hE hS ?_
 conv => whnf
 rw [show IntKind.i64.wrap (0 + 1) = 1 from wrapI (by decide) (by decide),mul1N (a :=a0) (by omega)]
 refine sym_unroll hE hS ?_
 conv => whnf
 rw [show IntKind.i64.wrap (1 + 1) = 2 from wrapI (by decide) (by decide),mulN (a :=1 * a0) (b :=a1) (by omega)]
 refine sym_unroll hE hS ?_
 conv => whnf
 exact ⟨_,rfl,Wk.refl _⟩
theorem product3 (a0 a1 a2:Nat) (h0:a0 ≤ 60) (h1:a1 ≤ 60) (h2:a2 ≤ 60):Pure prog 135 [.lst [nv a0,nv a1,nv a2] 3 .no] (nv (1 * a0 * a1 * a2)) :=by
 refine pure_sym hE rfl ⟨⟨⟨trivial,trivial,trivial,trivial⟩,fun _ h => nomatch h⟩,trivial⟩ trivial fun S q pc hS hq hC hE => ?_
 have q1:1 * a0 * a1 ≤ 60 * 60 :=Nat.mul_le_mul (show 1 * a0 ≤ 60 by omega) (by omega)
 have q2:1 * a0 * a1 * a2 ≤ 3600 * 60 :=Nat.mul_le_mul (show 1 * a0 * a1 ≤ 3600 by omega) (by omega)
 conv => whnf
 refine sym_unroll hE hS ?_
 conv => whnf
 rw [show IntKind.i64.wrap (0 + 1) = 1 from wrapI (by decide) (by decide),mul1N (a :=a0) (by omega)]
 refine sym_unroll hE hS ?_
 conv => whnf
 rw [show IntKind.i64.wrap (1 + 1) = 2 from wrapI (by decide) (by decide),mulN (a :=1 * a0) (b :=a1) (by omega)]
 refine sym_unroll hE hS ?_
 conv => whnf
 rw [show IntKind.i64.wrap (2 + 1) = 3 from wrapI (by decide) (by decide),mulN (a :=1 * a0 * a1) (b :=a2) (by omega)]
 refine sym_unroll hE hS ?_
 conv => whnf
 exact ⟨_,rfl,Wk.refl _⟩
theorem turns1 (a0 b0:Nat) (h0:(1 ≤ a0 ∧ a0 ≤ 60) ∧ (1 ≤ b0 ∧ b0 ≤ 60)):Pure prog 87 [.lst [nv a0,nv b0] 1 .no] (fv (Int.ofNat ((1 * a0) / Nat.gcd (1 * a0) (1 * b0))) (Int.ofNat ((1 * b0) / Nat.gcd (1 * a0) (1 * b0)))) :=by
 refine pure_sym hE rfl ⟨⟨⟨trivial,trivial,trivial⟩,fun _ h => nomatch h⟩,trivial⟩ ⟨trivial,trivial,trivial⟩ fun S q pc hS hq hC hE => ?_
 have hp:1 ≤ 1 * b0 :=by
  omega
 conv => whnf
 refine sym_unroll hE hS ?_
 conv => whnf
 refine sym_drawn hS (by kernel_rfl) ?_
 conv => whnf
 rw [show IntKind.i64.wrap (0 + 1) = 1 from wrapI (by decide) (by decide)]
 refine sym_unroll hE hS ?_
 conv => whnf
 refine sym_pureW hC (product1 a0 h0.1.2) ?_
 conv => whnf
 refine sym_pureW hC (product1 b0 h0.2.2) ?_
 conv => whnf
 refine sym_pure hC (reduced_pure (1 * a0) (1 * b0) (by omega) (by omega) hp) ?_
 conv => whnf
 exact ⟨_,rfl,Wk.refl _⟩
theorem turns2 (a0 b0 a1 b1:Nat) (h0:(1 ≤ a0 ∧ a0 ≤ 60) ∧ (1 ≤ b0 ∧ b0 ≤ 60)) (h1:(1 ≤ a1 ∧ a1 ≤ 60) ∧ (1 ≤ b1 ∧ b1 ≤ 60)):Pure prog 87 [.lst [nv a0,nv b0,nv a1,nv b1] 2 .no] (fv (Int.ofNat ((1 * a0 * a1) / Nat.gcd (1 * a0 * a1) (1 * b0 * b1))) (Int.ofNat ((1 * b0 * b1) / Nat.gcd (1 * a0 * a1) (1 * b0 * b1)))) :=by
 refine pure_sym hE rfl ⟨⟨⟨trivial,trivial,trivial,trivial,trivial⟩,fun _ h => nomatch h⟩,trivial⟩ ⟨trivial,trivial,trivial⟩ fun S q pc hS hq hC hE => ?_
 have q1:1 * a0 * a1 ≤ 60 * 60 :=Nat.mul_le_mul (show 1 * a0 ≤ 60 by omega) (by omega)
 have p1:1 * b0 * b1 ≤ 60 * 60 :=Nat.mul_le_mul (show 1 * b0 ≤ 60 by omega) (by omega)
 have hp:1 ≤ 1 * b0 * b1 :=by
  have r1:1 ≤ 1 * b0 * b1 :=Nat.mul_pos (show 0 < 1 * b0 by omega) (by omega)
  omega
 conv => whnf
 refine sym_unroll hE hS ?_
 conv => whnf
 refine sym_drawn hS (by kernel_rfl) ?_
 conv => whnf
 rw [show IntKind.i64.wrap (0 + 1) = 1 from wrapI (by decide) (by decide)]
 refine sym_unroll hE hS ?_
 conv => whnf
 refine sym_drawn hS (by kernel_rfl) ?_
 conv => whnf
 rw [show IntKind.i64.wrap (1 + 1) = 2 from wrapI (by decide) (by decide)]
 refine sym_unroll hE hS ?_
 conv => whnf
 refine sym_pureW hC (product2 a0 a1 h0.1.2 h1.1.2) ?_
 conv => whnf
 refine sym_pureW hC (product2 b0 b1 h0.2.2 h1.2.2) ?_
 conv => whnf
 refine sym_pure hC (reduced_pure (1 * a0 * a1) (1 * b0 * b1) (by omega) (by omega) hp) ?_
 conv => whnf
 exact ⟨_,rfl,Wk.refl _⟩
theorem turns3 (a0 b0 a1 b1 a2 b2:Nat) (h0:(1 ≤ a0 ∧ a0 ≤ 60) ∧ (1 ≤ b0 ∧ b0 ≤ 60)) (h1:(1 ≤ a1 ∧ a1 ≤ 60) ∧ (1 ≤ b1 ∧ b1 ≤ 60)) (h2:(1 ≤ a2 ∧ a2 ≤ 60) ∧ (1 ≤ b2 ∧ b2 ≤ 60)):Pure prog 87 [.lst [nv a0,nv b0,nv a1,nv b1,nv a2,nv b2] 3 .no] (fv (Int.ofNat ((1 * a0 * a1 * a2) / Nat.gcd (1 * a0 * a1 * a2) (1 * b0 * b1 * b2))) (Int.ofNat ((1 * b0 * b1 * b2) / Nat.gcd (1 * a0 * a1 * a2) (1 * b0 * b1 * b2)))) :=by
 refine pure_sym hE rfl ⟨⟨⟨trivial,trivial,trivial,trivial,trivial,trivial,trivial⟩,fun _ h => nomatch h⟩,trivial⟩ ⟨trivial,trivial,trivial⟩ fun S q pc hS hq hC hE => ?_
 have q1:1 * a0 * a1 ≤ 60 * 60 :=Nat.mul_le_mul (show 1 * a0 ≤ 60 by omega) (by omega)
 have q2:1 * a0 * a1 * a2 ≤ 3600 * 60 :=Nat.mul_le_mul (show 1 * a0 * a1 ≤ 3600 by omega) (by omega)
 have p1:1 * b0 * b1 ≤ 60 * 60 :=Nat.mul_le_mul (show 1 * b0 ≤ 60 by omega) (by omega)
 have p2:1 * b0 * b1 * b2 ≤ 3600 * 60 :=Nat.mul_le_mul (show 1 * b0 * b1 ≤ 3600 by omega) (by omega)
 have hp:1 ≤ 1 * b0 * b1 * b2 :=by
  have r1:1 ≤ 1 * b0 * b1 :=Nat.mul_pos (show 0 < 1 * b0 by omega) (by omega)
  have r2:1 ≤ 1 * b0 * b1 * b2 :=Nat.mul_pos (show 0 < 1 * b0 * b1 by omega) (by omega)
  omega
 conv => whnf
 refine sym_unroll hE hS ?_
 conv => whnf
 refine sym_drawn hS (by kernel_rfl) ?_
 conv => whnf
 rw [show IntKind.i64.wrap (0 + 1) = 1 from wrapI (by decide) (by decide)]
 refine sym_unroll hE hS ?_
 conv => whnf
 refine sym_drawn hS (by kernel_rfl) ?_
 conv => whnf
 rw [show IntKind.i64.wrap (1 + 1) = 2 from wrapI (by decide) (by decide)]
 refine sym_unroll hE hS ?_
 conv => whnf
 refine sym_drawn hS (by kernel_rfl) ?_
 conv => whnf
 rw [show IntKind.i64.wrap (2 + 1) = 3 from wrapI (by decide) (by decide)]
 refine sym_unroll hE hS ?_
 conv => whnf
 refine sym_pureW hC (product3 a0 a1 a2 h0.1.2 h1.1.2 h2.1.2) ?_
 conv => whnf
 refine sym_pureW hC (product3 b0 b1 b2 h0.2.2 h1.2.2 h2.2.2) ?_
 conv => whnf
 refine sym_pure hC (reduced_pure (1 * a0 * a1 * a2) (1 * b0 * b1 * b2) (by omega) (by omega) hp) ?_
 conv => whnf
 exact ⟨_,rfl,Wk.refl _⟩
def flat:List (Int × Int) → List AV
 | [] => []
 |p :: r => iv p.1 :: iv p.2 :: flat r
abbrev pv (l:List (Int × Int)):AV :=.lst (flat l) l.length .no
theorem flat_len:∀ l,(flat l).length = l.length * 2
 | [] => rfl
 |p :: r => by simp only [flat,List.length_cons,flat_len r];omega
theorem flat_no:∀ l,Lives noL (flat l)
 | [] => trivial
 | _ :: r => ⟨trivial,trivial,flat_no r⟩
theorem pv_no (l:List (Int × Int)):Live noL (pv l) :=⟨flat_no l,fun _ h => nomatch h⟩
structure TV (v:AV) (k x y:Nat):Prop where
 sh:∃ xs,v = .lst xs k .no ∧ Lives noL xs
 k1:1 ≤ k ∧ k ≤ 3
 isT:Pure prog 73 [v] (.bool true)
 rT:Pure prog 10 [v] (.bool true)
 tu:Pure prog 87 [v] (fv (Int.ofNat x) (Int.ofNat y))
 bx:1 ≤ x ∧ x ≤ 216000
 by_:1 ≤ y ∧ y ≤ 216000
 g:Nat.gcd x y = 1
structure TN (v:AV) (k:Nat):Prop where
 sh:v = .nils ∧ k = 0 ∨ ∃ xs,v = .lst xs k .no ∧ Lives noL xs
 isT:Pure prog 73 [v] (.bool false)
 rT:k ≤ 8 → Pure prog 10 [v] (.bool false)
theorem isTrain_nils:Pure prog 73 [.nils] (.bool false) :=by
 refine pure_sym hE rfl ⟨trivial,trivial⟩ trivial fun S q pc hS hq hC hE => ?_
 conv => whnf
 refine sym_pure hC (in_pure 0 1 3) ?_
 conv => whnf
 exact ⟨_,rfl,Wk.refl _⟩
theorem rTrain_nils:Pure prog 10 [.nils] (.bool false) :=by
 refine pure_sym hE rfl ⟨trivial,trivial⟩ trivial fun S q pc hS hq hC hE => ?_
 conv => whnf
 refine sym_unroll hE hS ?_
 conv => whnf
 refine sym_pure hC (rin_pure 0 1 3) ?_
 conv => whnf
 exact ⟨_,rfl,Wk.refl _⟩
theorem isTrain_out (xs:List AV) (k:Nat) (hl:Lives noL xs) (h:¬ (1 ≤ k ∧ k ≤ 3)):Pure prog 73 [.lst xs k .no] (.bool false) :=by
 refine pure_sym hE rfl ⟨⟨hl,fun _ h => nomatch h⟩,trivial⟩ trivial fun S q pc hS hq hC hE => ?_
 conv => whnf
 refine sym_pure hC (in_pure _ 1 3) ?_
 rw [decide_eq_false (show ¬ ((1:Int) ≤ ((k:Nat):Int) ∧ ((k:Nat):Int) ≤ 3) by omega)]
 conv => whnf
 exact ⟨_,rfl,Wk.refl _⟩
theorem tn_nils:TN .nils 0 :=⟨.inl ⟨rfl,rfl⟩,isTrain_nils,fun _ => rTrain_nils⟩
theorem tth_nat {a b:Int} (h:tth a ∧ tth b):∃ x y:Nat,a = Int.ofNat x ∧ b = Int.ofNat y ∧ ((1 ≤ x ∧ x ≤ 60) ∧ (1 ≤ y ∧ y ≤ 60)) :=by
 obtain ⟨⟨h1,h2⟩,h3,h4⟩ :=h
 refine ⟨a.toNat,b.toNat,?_,?_,?_⟩
 ·show a = ((a.toNat:Nat):Int);omega
 ·show b = ((b.toNat:Nat):Int);omega
 ·omega
theorem red_le {a b:Nat} (ha:1 ≤ a ∧ a ≤ 216000) (hb:1 ≤ b ∧ b ≤ 216000) :
  (1 ≤ a / Nat.gcd a b ∧ a / Nat.gcd a b ≤ 216000) ∧ (1 ≤ b / Nat.gcd a b ∧ b / Nat.gcd a b ≤ 216000) ∧ Nat.gcd (a / Nat.gcd a b) (b / Nat.gcd a b) = 1 :=by
 have hg:1 ≤ Nat.gcd a b :=gcd_pos_r hb.1
 have h1:Nat.gcd a b ≤ a :=Nat.le_of_dvd (by omega) (Nat.gcd_dvd_left a b)
 have h2:Nat.gcd a b ≤ b :=Nat.le_of_dvd (by omega) (Nat.gcd_dvd_right a b)
 have h3 :=red_gcd (n :=a) hb.1
 have h4:a / Nat.gcd a b ≤ a :=Nat.div_le_self _ _
 have h5:b / Nat.gcd a b ≤ b :=Nat.div_le_self _ _
 have h6:1 ≤ a / Nat.gcd a b :=Nat.div_pos h1 (by omega)
 exact ⟨⟨h6,by omega⟩,⟨h3.2,by omega⟩,h3.1⟩
theorem train_or (l:List (Int × Int)):(∃ x y,TV (pv l) l.length x y) ∨ TN (pv l) l.length :=by
 by_cases hk:1 ≤ l.length ∧ l.length ≤ 3
 ·match l,hk with
  | [(a0,b0)],_ =>
   by_cases hg:gd [(a0,b0)]
   ·left
    have i :=isTrain1 a0 b0
    have r :=rTrain1 a0 b0
    rw [decide_eq_true hg] at i r
    obtain ⟨x0,y0,rfl,rfl,h0⟩ :=tth_nat hg.1
    have b :=red_le (a :=1 * x0) (b :=1 * y0) (by omega) (by omega)
    exact ⟨_,_,⟨_,rfl,flat_no _⟩,⟨Nat.le_of_ble_eq_true rfl,Nat.le_of_ble_eq_true rfl⟩,i,r,turns1 x0 y0 h0,b.1,b.2.1,b.2.2⟩
   ·right
    have i :=isTrain1 a0 b0
    have r :=rTrain1 a0 b0
    rw [decide_eq_false hg] at i r
    exact ⟨.inr ⟨_,rfl,flat_no _⟩,i,fun _ => r⟩
  | [(a0,b0),(a1,b1)],_ =>
   by_cases hg:gd [(a0,b0),(a1,b1)]
   ·left
    have i :=isTrain2 a0 b0 a1 b1
    have r :=rTrain2 a0 b0 a1 b1
    rw [decide_eq_true hg] at i r
    obtain ⟨x0,y0,rfl,rfl,h0⟩ :=tth_nat hg.1
    obtain ⟨x1,y1,rfl,rfl,h1⟩ :=tth_nat hg.2.1
    have q1:1 * x0 * x1 ≤ 60 * 60 :=Nat.mul_le_mul (show 1 * x0 ≤ 60 by omega) (by omega)
    have q2:1 * y0 * y1 ≤ 60 * 60 :=Nat.mul_le_mul (show 1 * y0 ≤ 60 by omega) (by omega)
    have p1:1 ≤ 1 * x0 * x1 :=Nat.mul_pos (show 0 < 1 * x0 by omega) (by omega)
    have p2:1 ≤ 1 * y0 * y1 :=Nat.mul_pos (show 0 < 1 * y0 by omega) (by omega)
    have b :=red_le (a :=1 * x0 * x1) (b :=1 * y0 * y1) (by omega) (by omega)
    exact ⟨_,_,⟨_,rfl,flat_no _⟩,⟨Nat.le_of_ble_eq_true rfl,Nat.le_of_ble_eq_true rfl⟩,i,r,turns2 x0 y0 x1 y1 h0 h1,b.1,b.2.1,b.2.2⟩
   ·right
    have i :=isTrain2 a0 b0 a1 b1
    have r :=rTrain2 a0 b0 a1 b1
    rw [decide_eq_false hg] at i r
    exact ⟨.inr ⟨_,rfl,flat_no _⟩,i,fun _ => r⟩
  | [(a0,b0),(a1,b1),(a2,b2)],_ =>
   by_cases hg:gd [(a0,b0),(a1,b1),(a2,b2)]
   ·left
    have i :=isTrain3 a0 b0 a1 b1 a2 b2
    have r :=rTrain3 a0 b0 a1 b1 a2 b2
    rw [decide_eq_true hg] at i r
    obtain ⟨x0,y0,rfl,rfl,h0⟩ :=tth_nat hg.1
    obtain ⟨x1,y1,rfl,rfl,h1⟩ :=tth_nat hg.2.1
    obtain ⟨x2,y2,rfl,rfl,h2⟩ :=tth_nat hg.2.2.1
    have q1:1 * x0 * x1 ≤ 60 * 60 :=Nat.mul_le_mul (show 1 * x0 ≤ 60 by omega) (by omega)
    have q2:1 * y0 * y1 ≤ 60 * 60 :=Nat.mul_le_mul (show 1 * y0 ≤ 60 by omega) (by omega)
    have q3:1 * x0 * x1 * x2 ≤ 60 * 60 * 60 :=Nat.mul_le_mul q1 (by omega)
    have q4:1 * y0 * y1 * y2 ≤ 60 * 60 * 60 :=Nat.mul_le_mul q2 (by omega)
    have p1:1 ≤ 1 * x0 * x1 :=Nat.mul_pos (show 0 < 1 * x0 by omega) (by omega)
    have p2:1 ≤ 1 * y0 * y1 :=Nat.mul_pos (show 0 < 1 * y0 by omega) (by omega)
    have p3:1 ≤ 1 * x0 * x1 * x2 :=Nat.mul_pos p1 (by omega)
    have p4:1 ≤ 1 * y0 * y1 * y2 :=Nat.mul_pos p2 (by omega)
    have b :=red_le (a :=1 * x0 * x1 * x2) (b :=1 * y0 * y1 * y2) (by omega) (by omega)
    exact ⟨_,_,⟨_,rfl,flat_no _⟩,⟨Nat.le_of_ble_eq_true rfl,Nat.le_of_ble_eq_true rfl⟩,i,r,turns3 x0 y0 x1 y1 x2 y2 h0 h1 h2,b.1,b.2.1,b.2.2⟩
   ·right
    have i :=isTrain3 a0 b0 a1 b1 a2 b2
    have r :=rTrain3 a0 b0 a1 b1 a2 b2
    rw [decide_eq_false hg] at i r
    exact ⟨.inr ⟨_,rfl,flat_no _⟩,i,fun _ => r⟩
 ·right
  refine ⟨.inr ⟨_,rfl,flat_no _⟩,isTrain_out _ _ (flat_no l) hk,fun h8 => ?_⟩
  match l,h8 with
  | [],_ => exact rTrain0
  | [_],_ => exact absurd ⟨Nat.le_of_ble_eq_true rfl,Nat.le_of_ble_eq_true rfl⟩ hk
  | [_,_],_ => exact absurd ⟨Nat.le_of_ble_eq_true rfl,Nat.le_of_ble_eq_true rfl⟩ hk
  | [_,_,_],_ => exact absurd ⟨Nat.le_of_ble_eq_true rfl,Nat.le_of_ble_eq_true rfl⟩ hk
  | [(a0,b0),(a1,b1),(a2,b2),(a3,b3)],_ => exact rTrain4 ..
  | [(a0,b0),(a1,b1),(a2,b2),(a3,b3),(a4,b4)],_ => exact rTrain5 ..
  | [(a0,b0),(a1,b1),(a2,b2),(a3,b3),(a4,b4),(a5,b5)],_ => exact rTrain6 ..
  | [(a0,b0),(a1,b1),(a2,b2),(a3,b3),(a4,b4),(a5,b5),(a6,b6)],_ => exact rTrain7 ..
  | [(a0,b0),(a1,b1),(a2,b2),(a3,b3),(a4,b4),(a5,b5),(a6,b6),(a7,b7)],_ => exact rTrain8 ..
  | _ :: _ :: _ :: _ :: _ :: _ :: _ :: _ :: _ :: _,h8 => simp only [List.length_cons] at h8;omega
theorem maxI_neg {a b:Nat} (h1:a < 4611686018427387904) (h2:b < 4611686018427387904) :
  maxI (Int.ofNat a - Int.ofNat b) (IntKind.i64.wrap (0 - (Int.ofNat a - Int.ofNat b))) = Int.ofNat (gapN a b) :=by
 rw [wrapI (by show _ ≤ (0:Int) - ((a:Int) - (b:Int));omega) (by show (0:Int) - ((a:Int) - (b:Int)) < _;omega)]
 unfold maxI gapN
 show (if (0:Int) - ((a:Int) - (b:Int)) > (a:Int) - (b:Int) then (0:Int) - ((a:Int) - (b:Int)) else (a:Int) - (b:Int)) = (((a - b) + (b - a):Nat):Int)
 split <;> omega
theorem isNaN_pure (a:Int):Pure prog 133 [iv a] (.bool false) :=by
 refine pure_sym hE rfl ⟨trivial,trivial⟩ trivial fun S q pc hS hq hC hE => ?_
 conv => whnf
 exact ⟨_,rfl,wkb (by rw [bne_self_eq_false])⟩
def ordI (a b:Int):Int :=if a < b then -1 else if b < a then 1 else 0
theorem cmp_pure (a b:Int):Pure prog 84 [iv a,iv b] (iv (ordI a b)) :=by
 refine pure_sym hE rfl ⟨trivial,trivial,trivial⟩ trivial fun S q pc hS hq hC hE => ?_
 conv => whnf
 refine sym_pure hC (isNaN_pure a) ?_
 conv => whnf
 refine sym_pure hC (isNaN_pure b) ?_
 conv => whnf
 by_cases h1:a < b
 ·rw [show decide (a < b) = true from decide_eq_true h1]
  conv => whnf
  exact ⟨_,rfl,by rw [show ordI a b = -1 from if_pos h1];exact Wk.refl _⟩
 ·rw [show decide (a < b) = false from decide_eq_false h1]
  conv => whnf
  by_cases h2:b < a
  ·rw [show decide (a > b) = true from decide_eq_true h2]
   conv => whnf
   exact ⟨_,rfl,by rw [show ordI a b = 1 from (if_neg h1).trans (if_pos h2)];exact Wk.refl _⟩
  ·rw [show decide (a > b) = false from decide_eq_false h2]
   conv => whnf
   exact ⟨_,rfl,by rw [show ordI a b = 0 from (if_neg h1).trans (if_neg h2)];exact Wk.refl _⟩
abbrev dN (p q:Nat):Int :=Int.ofNat p - Int.ofNat q
theorem dN_mul (p q t:Nat):dN p q * Int.ofNat t = dN (p * t) (q * t) :=by
 show ((p:Int) - (q:Int)) * (t:Int) = ((p * t:Nat):Int) - ((q * t:Nat):Int)
 rw [Int.sub_mul,Int.natCast_mul,Int.natCast_mul]
theorem wrap_dN {p q:Nat} (h1:p < 9223372036854775808) (h2:q < 9223372036854775808):IntKind.i64.wrap (dN p q) = dN p q :=by
 apply wrapI
 ·show _ ≤ (p:Int) - (q:Int);omega
 ·show (p:Int) - (q:Int) < _;omega
theorem isTurn_pure (n:Int):Pure prog 77 [iv n] (.bool (decide (0 ≤ n ∧ n ≤ 10000))) :=by
 refine pure_sym hE rfl ⟨trivial,trivial⟩ trivial fun S q pc hS hq hC hE => ?_
 conv => whnf
 refine sym_pure hC (in_pure n 0 10000) ?_
 conv => whnf
 exact ⟨_,rfl,Wk.refl _⟩
theorem rNumber_pure (n:Int):Pure prog 25 [iv n] (.bool (decide (0 ≤ n ∧ n ≤ 10000))) :=by
 refine pure_sym hE rfl ⟨trivial,trivial⟩ trivial fun S q pc hS hq hC hE => ?_
 conv => whnf
 refine sym_pure hC (rin_pure n 0 10000) ?_
 conv => whnf
 exact ⟨_,rfl,Wk.refl _⟩
theorem isLimit_pure (n:Int):Pure prog 75 [iv n] (.bool (decide (0 ≤ n ∧ n ≤ 10800))) :=by
 refine pure_sym hE rfl ⟨trivial,trivial⟩ trivial fun S q pc hS hq hC hE => ?_
 conv => whnf
 refine sym_pure hC (in_pure n 0 10800) ?_
 conv => whnf
 exact ⟨_,rfl,Wk.refl _⟩
theorem rLimit_pure (n:Int):Pure prog 24 [iv n] (.bool (decide (0 ≤ n ∧ n ≤ 10800))) :=by
 refine pure_sym hE rfl ⟨trivial,trivial⟩ trivial fun S q pc hS hq hC hE => ?_
 conv => whnf
 refine sym_pure hC (rin_pure n 0 10800) ?_
 conv => whnf
 exact ⟨_,rfl,Wk.refl _⟩
theorem dif_le {n d x y:Nat} (hn:n ≤ 50000) (hd:d ≤ 50000) (hx:x ≤ 216000) (hy:y ≤ 216000):x * d ≤ 10800000000 ∧ n * y ≤ 10800000000 ∧ y * d ≤ 10800000000 :=by
 have b1:x * d ≤ 216000 * 50000 :=Nat.mul_le_mul hx hd
 have b2:n * y ≤ 50000 * 216000 :=Nat.mul_le_mul hn hy
 have b3:y * d ≤ 216000 * 50000 :=Nat.mul_le_mul hy hd
 omega
theorem wrongBy_pure {v:AV} {k x y:Nat} (hv:TV v k x y) (n d:Nat) (hn:n ≤ 50000) (hd:1 ≤ d ∧ d ≤ 50000) :
  Pure prog 78 [v,fv (Int.ofNat n) (Int.ofNat d)] (.agg [iv (dN (x * d * 21600) (n * y * 21600)),nv (y * d)]) :=by
 obtain ⟨xs,rfl,lx⟩ :=hv.sh
 have b :=dif_le hn hd.2 hv.bx.2 hv.by_.2
 refine pure_sym hE rfl ⟨⟨lx,fun _ h => nomatch h⟩,⟨trivial,trivial,trivial⟩,trivial⟩ ⟨trivial,trivial,trivial⟩ fun S q pc hS hq hC hE => ?_
 conv => whnf
 refine sym_pure hC hv.tu ?_
 conv => whnf
 refine sym_pure hC (compare_pure x y n d (by omega) (by omega)) ?_
 conv => whnf
 refine sym_drawn hS (by kernel_rfl) ?_
 conv => whnf
 rw [show (Int.ofNat (x * d) - Int.ofNat (n * y)) * 21600 = dN (x * d * 21600) (n * y * 21600) from dN_mul _ _ 21600,wrap_dN (by omega) (by omega),mulN (a :=y) (b :=d) (by omega)]
 exact ⟨_,rfl,Wk.refl _⟩

structure TS (v:AV) (k:Nat) (b:Bool):Prop where
 sh:v = .nils ∧ k = 0 ∨ ∃ xs,v = .lst xs k .no ∧ Lives noL xs
 isT:Pure prog 73 [v] (.bool b)
 rT:k ≤ 8 → Pure prog 10 [v] (.bool b)
theorem TS.no {v:AV} {k:Nat} {b:Bool} (h:TS v k b):Live noL v :=by
 rcases h.sh with ⟨rfl,_⟩ | ⟨xs,rfl,hl⟩
 ·trivial
 ·exact ⟨hl,fun _ h => nomatch h⟩
theorem ordI_neg (a b:Int):ordI b a = -ordI a b :=by unfold ordI;split <;> split <;> omega
end Go.Abs.Seat
/-! Off, Lasts, Between: the program's and the document's. -/
namespace Go.Abs.Seat
open Go Go.Abs Go.Proofs.Tryz
set_option maxRecDepth 100000
set_option maxHeartbeats 4000000
attribute [local irreducible] IntKind.wrap pEq
mutual
theorem bd_no:∀ (v:AV),Live noL v → bd v = 0
 | .unk,_ => rfl
 | .int _ _,_ => rfl
 | .bool _,_ => rfl
 | .str _,_ => rfl
 | .nilp,_ => rfl
 | .ptr _ _,h => h.elim
 | .lptr xs _,h => bdl_no0 xs h
 | .gp _ _,_ => rfl
 | .nils,_ => rfl
 | .slc _ _ _ _,h => h.elim
 | .lst xs _ .no,h => bdl_no0 xs h.1
 | .lst xs _ .full,h => bdl_no0 xs h.1
 | .lst xs _ (.ch c),h => (h.2 c rfl).elim
 | .nilm,_ => rfl
 | .map _,h => h.elim
 | .nilf,_ => rfl
 | .func _ f c,h => by show Nat.max (bdl f) (bdl c) = 0;rw [bdl_no0 f h.1,bdl_no0 c h.2];rfl
 | .yld _,h => h.elim
 | .nili,_ => rfl
 | .iface _ a,h => bd_no a h
 | .agg cs,h => bdl_no0 cs h
 | .tup cs,h => bdl_no0 cs h
theorem bdl_no0:∀ (xs:List AV),Lives noL xs → bdl xs = 0
 | [],_ => rfl
 |x :: xs,h => by show Nat.max (bd x) (bdl xs) = 0;rw [bd_no x h.1,bdl_no0 xs h.2];rfl
end
theorem bdl_no {xs:List AV} (h:Lives noL xs) {n:Nat}:bdl xs ≤ n :=by rw [bdl_no0 xs h];exact Nat.zero_le _
theorem plan_as {p p':Plan} {y:Bool} {s n:Nat} {h:Tr AObj} {K:KP} (e:p = p') (k:runP p' y s h n K):runP p y s h n K :=e ▸ k
theorem nthP {xs:List AV} {o:Nat} {v:AV} (e:nth xs o = some v):(match nth xs o with | some v => Plan.ret v | none => Plan.fail) = Plan.ret v :=by rw [e]
theorem rng {t:Nat} {m:Int} (h:(t:Int) ≤ m):(0:Int) ≤ Int.ofNat t ∧ Int.ofNat t ≤ m :=by simp only [Int.ofNat_eq_natCast];omega
theorem gapN_mul (a b c:Nat):gapN (a * c) (b * c) = gapN a b * c :=by
 unfold gapN
 rw [← Nat.sub_mul,← Nat.sub_mul,← Nat.add_mul]
theorem minI_T (b:Nat):minI 10000 (Int.ofNat b) = Int.ofNat (min 10000 b) :=by
 unfold minI
 show (if ((b:Nat):Int) < 10000 then ((b:Nat):Int) else 10000) = ((min 10000 b:Nat):Int)
 split <;> omega
def lastV (x y n d m:Nat):Nat :=if gapN (x * d) (n * y) = 0 then 10000 else min 10000 (m * (y * d) / (gapN (x * d) (n * y) * 21600))
theorem lastV_le (x y n d m:Nat):lastV x y n d m ≤ 10000 :=by unfold lastV;split <;> omega
theorem wlasts_pure (x y n d m:Nat) (h1:x * d ≤ 10800000000) (h2:n * y ≤ 10800000000) (h3:y * d ≤ 10800000000) (hm:m ≤ 10800) :
  Pure prog 79 [.agg [iv (dN (x * d * 21600) (n * y * 21600)),nv (y * d)],nv m] (nv (lastV x y n d m)) :=by
 have b2:m * (y * d) ≤ 10800 * 10800000000 :=Nat.mul_le_mul hm h3
 refine pure_sym hE rfl (by repeat' (first | exact trivial | assumption | exact flat_no _ | exact (fun _ h => nomatch h) | apply And.intro)) (by repeat' (first | exact trivial | assumption | exact flat_no _ | exact (fun _ h => nomatch h) | apply And.intro)) fun S q pc hS hq hC hE => ?_
 conv => whnf
 rw [maxI_neg (by omega) (by omega),gapN_mul]
 by_cases h:gapN (x * d) (n * y) = 0
 ·rw [show (Int.ofNat (gapN (x * d) (n * y) * 21600) == 0) = true by rw [h];rfl]
  conv => whnf
  refine ⟨_,rfl,?_⟩
  rw [show lastV x y n d m = 10000 from if_pos h]
  exact Wk.refl _
 ·have hg:1 ≤ gapN (x * d) (n * y) * 21600 :=by omega
  rw [show (Int.ofNat (gapN (x * d) (n * y) * 21600) == 0) = false from by simpa using ne0 hg]
  conv => whnf
  refine bool_true (ne0 hg) ?_
  conv => whnf
  rw [mulN (a :=m) (b :=y * d) (by omega),quoN (by omega),minI_T]
  refine ⟨_,rfl,?_⟩
  rw [show lastV x y n d m = min 10000 (m * (y * d) / (gapN (x * d) (n * y) * 21600)) from if_neg h]
  exact Wk.refl _
end Go.Abs.Seat

namespace Go.Abs.Seat
open Go Go.Abs Go.Proofs.Tryz
set_option maxRecDepth 100000
set_option maxHeartbeats 4000000
attribute [local irreducible] IntKind.wrap pEq
theorem int_nat {a:Int} {m:Int} (h:0 ≤ a ∧ a ≤ m):∃ x:Nat,a = Int.ofNat x ∧ (x:Int) ≤ m :=⟨a.toNat,by show a = ((a.toNat:Nat):Int);omega,by omega⟩
def ivs:List Int → List AV
 | [] => []
 |x :: r => iv x :: ivs r
abbrev nl (l:List Int):AV :=.lst (ivs l) l.length .no
abbrev gi (l:List Int) (i:Nat):Int :=l.getD i 0
theorem ivs_len:∀ l,(ivs l).length = l.length
 | [] => rfl
 | _ :: r => by simp only [ivs,List.length_cons,ivs_len r]
theorem ivs_no:∀ l,Lives noL (ivs l)
 | [] => trivial
 | _ :: r => ⟨trivial,ivs_no r⟩
theorem nl_no (l:List Int):Live noL (nl l) :=⟨ivs_no l,fun _ h => nomatch h⟩
theorem nth_ivs:∀ (l:List Int) (i:Nat),i < l.length → nth (ivs l) i = some (iv (gi l i))
 |x :: r,0,_ => rfl
 |x :: r,i + 1,h => nth_ivs r i (by simpa using h)
 | [],i,h => absurd h (Nat.not_lt_zero _)
theorem nth_ivs1 {l:List Int} {i:Nat} (h:i < l.length):nth (ivs l) (i * 1) = some (iv (gi l i)) :=by rw [Nat.mul_one];exact nth_ivs l i h
theorem inR_t {i n:Nat} (h:i < n):inR (Int.ofNat i) n = true :=by
 unfold inR
 rw [decide_eq_true (show (0:Int) ≤ Int.ofNat i by show (0:Int) ≤ (i:Int);omega),decide_eq_true (show Int.ofNat i < (n:Int) by show (i:Int) < (n:Int);omega)]
 rfl
def feAt (l:List Int) (i:Nat):Prop :=(1 ≤ gi l i ∧ gi l i ≤ 10000) ∧ (0 < i → gi l (i - 1) < gi l i)
def feOk (l:List Int):Prop :=(∀ i,i < l.length → feAt l i) ∧ l.length ≤ 8
theorem bfalse {b:Bool} {p:Prop} (h:b = true ↔ p) (hp:¬ p):b = false :=Bool.eq_false_iff.2 fun e => hp (h.1 e)
theorem btrue {b:Bool} {p:Prop} (h:b = true ↔ p) (hp:p):b = true :=h.2 hp
theorem upto {p:Nat → Prop} {i:Nat} (h:∀ j,j < i → p j) (hi:p i):∀ j,j < i + 1 → p j :=fun j hj => by
 by_cases e:j = i
 ·subst e;exact hi
 ·exact h j (by omega)
theorem areFeasts_pure (l:List Int) (hl:l.length < 4611686018427387904) {b:Bool} (hb:b = true ↔ feOk l):Pure prog 76 [nl l] (.bool b) :=by
 have ln :=ivs_no l
 refine pure_sym hE rfl (by repeat' (first | exact trivial | assumption | exact flat_no _ | exact (fun _ h => nomatch h) | apply And.intro)) (by repeat' (first | exact trivial | assumption | exact flat_no _ | exact (fun _ h => nomatch h) | apply And.intro)) fun S q pc hS hq hC hE => ?_
 conv => whnf
 refine sym_loop hE hS (A :=Nat) [0,5,6] (fun i => [(7,nv i)]) (fun _ => []) (fun i => i ≤ l.length ∧ ∀ j,j < i → feAt l j) (fun i => l.length - i) 0 rfl rfl (by refine ⟨rfl,rfl,rfl,rfl,?_,?_⟩ <;> repeat' (first | exact trivial | exact rfl | exact Nat.zero_le _ | exact Nat.le_of_ble_eq_true rfl | exact bdl_no (by assumption) | exact bdl_no (flat_no _) | exact bdl_no (ivs_no _) | exact Nat.max_le.2 ⟨Nat.le_of_ble_eq_true rfl,bdl_no (ivs_no _)⟩ | apply And.intro)) ⟨Nat.zero_le _,fun j h => absurd h (Nat.not_lt_zero _)⟩ ?_
 intro i ⟨hi,hf⟩
 conv => whnf
 by_cases h:i < l.length
 ·rw [show decide (Int.ofNat i < ↑l.length) = true from ltN_t h]
  conv => whnf
  refine bool_true (inR_t (i :=i) (n :=l.length) h) ?_
  conv => whnf
  refine plan_as (nthP (nth_ivs1 (l :=l) (i :=i) h)) ?_
  conv => whnf
  refine sym_pure hC (in_pure (gi l i) 1 10000) ?_
  conv => whnf
  have nx:∀ j,j < i + 1 → ¬ feAt l i → b = false :=fun _ _ k => bfalse hb fun q => k (q.1 i h)
  by_cases h1:1 ≤ gi l i ∧ gi l i ≤ 10000
  ·rw [decide_eq_true h1]
   conv => whnf
   cases i with
   |zero =>
    conv => whnf
    rw [show IntKind.i64.wrap (Int.ofNat 0 + 1) = 1 from wrapI (by decide) (by decide)]
    conv => whnf
    exact ⟨1,⟨h,upto hf ⟨h1,fun k => absurd k (Nat.lt_irrefl _)⟩⟩,by omega,(by refine ⟨rfl,rfl,rfl,rfl,?_,?_⟩ <;> repeat' (first | exact trivial | exact rfl | exact Nat.zero_le _ | exact Nat.le_of_ble_eq_true rfl | exact bdl_no (by assumption) | exact bdl_no (flat_no _) | exact bdl_no (ivs_no _) | exact Nat.max_le.2 ⟨Nat.le_of_ble_eq_true rfl,bdl_no (ivs_no _)⟩ | apply And.intro))⟩
   |succ i =>
    conv => whnf
    rw [show decide (Int.ofNat (i + 1) > 0) = true from (pos0 _).2 (by omega)]
    conv => whnf
    rw [show IntKind.i64.wrap (Int.ofNat (i + 1) - 1) = Int.ofNat i from wrapSub1 (m :=i + 1) (by omega) (by omega)]
    conv => whnf
    have h':i < l.length :=by omega
    refine bool_true (inR_t (i :=i) (n :=l.length) h') ?_
    conv => whnf
    refine plan_as (nthP (nth_ivs1 (l :=l) (i :=i) h')) ?_
    conv => whnf
    by_cases h2:gi l (i + 1) ≤ gi l i
    ·rw [show decide (gi l (i + 1) ≤ gi l i) = true from decide_eq_true h2]
     conv => whnf
     rw [nx 0 (by omega) fun k => by have :=k.2 (by omega);simp only [Nat.add_sub_cancel] at this;omega]
     exact ⟨_,rfl,Wk.refl _⟩
    ·rw [show decide (gi l (i + 1) ≤ gi l i) = false from decide_eq_false h2]
     conv => whnf
     rw [show IntKind.i64.wrap (Int.ofNat (i + 1) + 1) = Int.ofNat (i + 2) from wrapN (m :=i + 2) (by omega)]
     exact ⟨i + 2,⟨h,upto hf ⟨h1,fun _ => by simp only [Nat.add_sub_cancel];omega⟩⟩,by omega,(by refine ⟨rfl,rfl,rfl,rfl,?_,?_⟩ <;> repeat' (first | exact trivial | exact rfl | exact Nat.zero_le _ | exact Nat.le_of_ble_eq_true rfl | exact bdl_no (by assumption) | exact bdl_no (flat_no _) | exact bdl_no (ivs_no _) | exact Nat.max_le.2 ⟨Nat.le_of_ble_eq_true rfl,bdl_no (ivs_no _)⟩ | apply And.intro))⟩
  ·rw [decide_eq_false h1]
   conv => whnf
   rw [nx 0 (by omega) fun k => h1 k.1]
   exact ⟨_,rfl,Wk.refl _⟩
 ·rw [show decide (Int.ofNat i < ↑l.length) = false from ltN_f h]
  conv => whnf
  have hi:i = l.length :=by omega
  subst hi
  refine ⟨_,rfl,wkb ?_⟩
  by_cases h8:l.length ≤ 8
  ·rw [btrue hb ⟨hf,h8⟩];exact decide_eq_true (by omega)
  ·rw [bfalse hb fun k => h8 k.2];exact decide_eq_false (by omega)
theorem areFeasts_nil:Pure prog 76 [.nils] (.bool true) :=by
 refine pure_sym hE rfl (by repeat' (first | exact trivial | assumption | exact flat_no _ | exact (fun _ h => nomatch h) | apply And.intro)) (by repeat' (first | exact trivial | assumption | exact flat_no _ | exact (fun _ h => nomatch h) | apply And.intro)) fun S q pc hS hq hC hE => ?_
 conv => whnf
 refine sym_unroll hE hS ?_
 conv => whnf
 exact ⟨_,rfl,Wk.refl _⟩
def IL (v:AV) (l:List Int):Prop :=v = .nils ∧ l = [] ∨ v = nl l
theorem IL.no {v:AV} {l:List Int} (h:IL v l):Live noL v :=by
 rcases h with ⟨rfl,_⟩ | rfl
 ·trivial
 ·exact nl_no l
def seAt (n:Nat) (l:List Int) (i:Nat):Prop :=(0 ≤ gi l i ∧ gi l i ≤ (n:Int) - 1) ∧ (0 < i → gi l (i - 1) < gi l i)
def seOk (n:Nat) (l:List Int):Prop :=∀ i,i < l.length → seAt n l i
theorem wrapLen {n:Nat} (h:n < 4611686018427387904):IntKind.i64.wrap ((n:Int) - 1) = (n:Int) - 1 :=wrapI (by omega) (by omega)
theorem areSettings_pure (f l:List Int) (hf:f.length < 4611686018427387904) (hl:l.length < 4611686018427387904) {b:Bool} (hb:b = true ↔ seOk f.length l):Pure prog 86 [nl f,nl l] (.bool b) :=by
 have ln :=ivs_no l
 have lf :=ivs_no f
 refine pure_sym hE rfl (by repeat' (first | exact trivial | assumption | exact flat_no _ | exact (fun _ h => nomatch h) | apply And.intro)) (by repeat' (first | exact trivial | assumption | exact flat_no _ | exact (fun _ h => nomatch h) | apply And.intro)) fun S q pc hS hq hC hE => ?_
 conv => whnf
 refine sym_loop hE hS (A :=Nat) [0,1,7,8] (fun i => [(9,nv i)]) (fun _ => []) (fun i => i ≤ l.length ∧ ∀ j,j < i → seAt f.length l j) (fun i => l.length - i) 0 rfl rfl (by refine ⟨rfl,rfl,rfl,rfl,?_,?_⟩ <;> repeat' (first | exact trivial | exact rfl | exact Nat.zero_le _ | exact Nat.le_of_ble_eq_true rfl | exact bdl_no (by assumption) | exact bdl_no (flat_no _) | exact bdl_no (ivs_no _) | exact Nat.max_le.2 ⟨Nat.le_of_ble_eq_true rfl,bdl_no (ivs_no _)⟩ | apply And.intro)) ⟨Nat.zero_le _,fun j h => absurd h (Nat.not_lt_zero _)⟩ ?_
 intro i ⟨hi,hp⟩
 conv => whnf
 by_cases h:i < l.length
 ·rw [show decide (Int.ofNat i < ↑l.length) = true from ltN_t h]
  conv => whnf
  refine bool_true (inR_t (i :=i) (n :=l.length) h) ?_
  conv => whnf
  refine plan_as (nthP (nth_ivs1 (l :=l) (i :=i) h)) ?_
  conv => whnf
  rw [wrapLen hf]
  conv => whnf
  refine sym_pure hC (in_pure (gi l i) 0 ((f.length:Int) - 1)) ?_
  conv => whnf
  have nx:¬ seAt f.length l i → b = false :=fun k => bfalse hb fun q => k (q i h)
  by_cases h1:0 ≤ gi l i ∧ gi l i ≤ (f.length:Int) - 1
  ·rw [decide_eq_true h1]
   conv => whnf
   cases i with
   |zero =>
    conv => whnf
    rw [show IntKind.i64.wrap (Int.ofNat 0 + 1) = 1 from wrapI (by decide) (by decide)]
    conv => whnf
    exact ⟨1,⟨h,upto hp ⟨h1,fun k => absurd k (Nat.lt_irrefl _)⟩⟩,by omega,(by refine ⟨rfl,rfl,rfl,rfl,?_,?_⟩ <;> repeat' (first | exact trivial | exact rfl | exact Nat.zero_le _ | exact Nat.le_of_ble_eq_true rfl | exact bdl_no (by assumption) | exact bdl_no (flat_no _) | exact bdl_no (ivs_no _) | exact Nat.max_le.2 ⟨Nat.le_of_ble_eq_true rfl,bdl_no (ivs_no _)⟩ | apply And.intro))⟩
   |succ i =>
    conv => whnf
    rw [show decide (Int.ofNat (i + 1) > 0) = true from (pos0 _).2 (by omega)]
    conv => whnf
    rw [show IntKind.i64.wrap (Int.ofNat (i + 1) - 1) = Int.ofNat i from wrapSub1 (m :=i + 1) (by omega) (by omega)]
    conv => whnf
    have h':i < l.length :=by omega
    refine bool_true (inR_t (i :=i) (n :=l.length) h') ?_
    conv => whnf
    refine plan_as (nthP (nth_ivs1 (l :=l) (i :=i) h')) ?_
    conv => whnf
    by_cases h2:gi l (i + 1) ≤ gi l i
    ·rw [show decide (gi l (i + 1) ≤ gi l i) = true from decide_eq_true h2]
     conv => whnf
     rw [nx fun k => by have :=k.2 (by omega);simp only [Nat.add_sub_cancel] at this;omega]
     exact ⟨_,rfl,Wk.refl _⟩
    ·rw [show decide (gi l (i + 1) ≤ gi l i) = false from decide_eq_false h2]
     conv => whnf
     rw [show IntKind.i64.wrap (Int.ofNat (i + 1) + 1) = Int.ofNat (i + 2) from wrapN (m :=i + 2) (by omega)]
     exact ⟨i + 2,⟨h,upto hp ⟨h1,fun _ => by simp only [Nat.add_sub_cancel];omega⟩⟩,by omega,(by refine ⟨rfl,rfl,rfl,rfl,?_,?_⟩ <;> repeat' (first | exact trivial | exact rfl | exact Nat.zero_le _ | exact Nat.le_of_ble_eq_true rfl | exact bdl_no (by assumption) | exact bdl_no (flat_no _) | exact bdl_no (ivs_no _) | exact Nat.max_le.2 ⟨Nat.le_of_ble_eq_true rfl,bdl_no (ivs_no _)⟩ | apply And.intro))⟩
  ·rw [decide_eq_false h1]
   conv => whnf
   rw [nx fun k => h1 k.1]
   exact ⟨_,rfl,Wk.refl _⟩
 ·rw [show decide (Int.ofNat i < ↑l.length) = false from ltN_f h]
  conv => whnf
  have hi:i = l.length :=by omega
  subst hi
  exact ⟨_,rfl,wkb (btrue hb hp).symm⟩
theorem rSet_pure (f l:List Int) (hf:f.length < 4611686018427387904) (hl:l.length < 4611686018427387904) {b:Bool} (hb:b = true ↔ seOk f.length l):Pure prog 31 [nl f,nl l] (.bool b) :=by
 have ln :=ivs_no l
 have lf :=ivs_no f
 refine pure_sym hE rfl (by repeat' (first | exact trivial | assumption | exact flat_no _ | exact (fun _ h => nomatch h) | apply And.intro)) (by repeat' (first | exact trivial | assumption | exact flat_no _ | exact (fun _ h => nomatch h) | apply And.intro)) fun S q pc hS hq hC hE => ?_
 conv => whnf
 refine sym_loop hE hS (A :=Nat) [0,1] (fun i => [(5,nv i)]) (fun _ => []) (fun i => i ≤ l.length ∧ ∀ j,j < i → seAt f.length l j) (fun i => l.length - i) 0 rfl rfl (by refine ⟨rfl,rfl,rfl,rfl,?_,?_⟩ <;> repeat' (first | exact trivial | exact rfl | exact Nat.zero_le _ | exact Nat.le_of_ble_eq_true rfl | exact bdl_no (by assumption) | exact bdl_no (flat_no _) | exact bdl_no (ivs_no _) | exact Nat.max_le.2 ⟨Nat.le_of_ble_eq_true rfl,bdl_no (ivs_no _)⟩ | apply And.intro)) ⟨Nat.zero_le _,fun j h => absurd h (Nat.not_lt_zero _)⟩ ?_
 intro i ⟨hi,hp⟩
 conv => whnf
 by_cases h:i < l.length
 ·rw [show decide (Int.ofNat i < ↑l.length) = true from ltN_t h]
  conv => whnf
  refine bool_true (inR_t (i :=i) (n :=l.length) h) ?_
  conv => whnf
  refine plan_as (nthP (nth_ivs1 (l :=l) (i :=i) h)) ?_
  conv => whnf
  rw [wrapLen hf]
  conv => whnf
  refine sym_pure hC (rin_pure (gi l i) 0 ((f.length:Int) - 1)) ?_
  conv => whnf
  have nx:¬ seAt f.length l i → b = false :=fun k => bfalse hb fun q => k (q i h)
  by_cases h1:0 ≤ gi l i ∧ gi l i ≤ (f.length:Int) - 1
  ·rw [decide_eq_true h1]
   conv => whnf
   cases i with
   |zero =>
    conv => whnf
    refine sym_drawn hS (by kernel_rfl) ?_
    conv => whnf
    rw [show IntKind.i64.wrap (Int.ofNat 0 + 1) = 1 from wrapI (by decide) (by decide)]
    conv => whnf
    exact ⟨1,⟨h,upto hp ⟨h1,fun k => absurd k (Nat.lt_irrefl _)⟩⟩,by omega,(by refine ⟨rfl,rfl,rfl,rfl,?_,?_⟩ <;> repeat' (first | exact trivial | exact rfl | exact Nat.zero_le _ | exact Nat.le_of_ble_eq_true rfl | exact bdl_no (by assumption) | exact bdl_no (flat_no _) | exact bdl_no (ivs_no _) | exact Nat.max_le.2 ⟨Nat.le_of_ble_eq_true rfl,bdl_no (ivs_no _)⟩ | apply And.intro))⟩
   |succ i =>
    conv => whnf
    rw [show decide (Int.ofNat (i + 1) > 0) = true from (pos0 _).2 (by omega)]
    conv => whnf
    refine bool_true (inR_t (i :=(i+1)) (n :=l.length) h) ?_
    conv => whnf
    refine plan_as (nthP (nth_ivs1 (l :=l) (i :=(i+1)) h)) ?_
    conv => whnf
    rw [show IntKind.i64.wrap (Int.ofNat (i + 1) - 1) = Int.ofNat i from wrapSub1 (m :=i + 1) (by omega) (by omega)]
    conv => whnf
    have h':i < l.length :=by omega
    refine bool_true (inR_t (i :=i) (n :=l.length) h') ?_
    conv => whnf
    refine plan_as (nthP (nth_ivs1 (l :=l) (i :=i) h')) ?_
    conv => whnf
    refine sym_drawn hS (by kernel_rfl) ?_
    conv => whnf
    by_cases h2:gi l (i + 1) ≤ gi l i
    ·rw [show decide (gi l (i + 1) ≤ gi l i) = true from decide_eq_true h2]
     conv => whnf
     rw [nx fun k => by have :=k.2 (by omega);simp only [Nat.add_sub_cancel] at this;omega]
     exact ⟨_,rfl,Wk.refl _⟩
    ·rw [show decide (gi l (i + 1) ≤ gi l i) = false from decide_eq_false h2]
     conv => whnf
     rw [show IntKind.i64.wrap (Int.ofNat (i + 1) + 1) = Int.ofNat (i + 2) from wrapN (m :=i + 2) (by omega)]
     exact ⟨i + 2,⟨h,upto hp ⟨h1,fun _ => by simp only [Nat.add_sub_cancel];omega⟩⟩,by omega,(by refine ⟨rfl,rfl,rfl,rfl,?_,?_⟩ <;> repeat' (first | exact trivial | exact rfl | exact Nat.zero_le _ | exact Nat.le_of_ble_eq_true rfl | exact bdl_no (by assumption) | exact bdl_no (flat_no _) | exact bdl_no (ivs_no _) | exact Nat.max_le.2 ⟨Nat.le_of_ble_eq_true rfl,bdl_no (ivs_no _)⟩ | apply And.intro))⟩
  ·rw [decide_eq_false h1]
   conv => whnf
   refine sym_drawn hS (by kernel_rfl) ?_
   conv => whnf
   rw [nx fun k => h1 k.1]
   exact ⟨_,rfl,Wk.refl _⟩
 ·rw [show decide (Int.ofNat i < ↑l.length) = false from ltN_f h]
  conv => whnf
  have hi:i = l.length :=by omega
  subst hi
  exact ⟨_,rfl,wkb (btrue hb hp).symm⟩
theorem set_nil (v:AV) (f:List Int) (h:IL v f):Pure prog 86 [v,.nils] (.bool true) ∧ Pure prog 31 [v,.nils] (.bool true) :=by
 have lf :=h.no
 rcases h with ⟨rfl,rfl⟩ | rfl
 all_goals
  constructor
  ·refine pure_sym hE rfl (by repeat' (first | exact trivial | assumption | exact flat_no _ | exact (fun _ h => nomatch h) | apply And.intro)) (by repeat' (first | exact trivial | assumption | exact flat_no _ | exact (fun _ h => nomatch h) | apply And.intro)) fun S q pc hS hq hC hE => ?_
   conv => whnf
   refine sym_unroll hE hS ?_
   conv => whnf
   exact ⟨_,rfl,Wk.refl _⟩
  ·refine pure_sym hE rfl (by repeat' (first | exact trivial | assumption | exact flat_no _ | exact (fun _ h => nomatch h) | apply And.intro)) (by repeat' (first | exact trivial | assumption | exact flat_no _ | exact (fun _ h => nomatch h) | apply And.intro)) fun S q pc hS hq hC hE => ?_
   conv => whnf
   refine sym_unroll hE hS ?_
   conv => whnf
   exact ⟨_,rfl,Wk.refl _⟩
theorem set_none (x:Int) (r:List Int):Pure prog 86 [.nils,nl (x :: r)] (.bool false) ∧ Pure prog 31 [.nils,nl (x :: r)] (.bool false) :=by
 have ln :=ivs_no (x :: r)
 constructor
 ·refine pure_sym hE rfl (by repeat' (first | exact trivial | assumption | exact flat_no _ | exact (fun _ h => nomatch h) | apply And.intro)) (by repeat' (first | exact trivial | assumption | exact flat_no _ | exact (fun _ h => nomatch h) | apply And.intro)) fun S q pc hS hq hC hE => ?_
  conv => whnf
  refine sym_unroll hE hS ?_
  conv => whnf
  rw [show decide ((0:Int) < (((x :: r).length:Nat):Int)) = true from decide_eq_true (by simp only [List.length_cons];omega)]
  conv => whnf
  refine bool_true (inR_t (i :=0) (n :=(x :: r).length) (by simp)) ?_
  conv => whnf
  rw [show IntKind.i64.wrap (0 - 1) = -1 from wrapI (by decide) (by decide)]
  conv => whnf
  refine sym_pure hC (in_pure x 0 (-1)) ?_
  conv => whnf
  rw [decide_eq_false (show ¬ (0 ≤ x ∧ x ≤ -1) by omega)]
  conv => whnf
  exact ⟨_,rfl,Wk.refl _⟩
 ·refine pure_sym hE rfl (by repeat' (first | exact trivial | assumption | exact flat_no _ | exact (fun _ h => nomatch h) | apply And.intro)) (by repeat' (first | exact trivial | assumption | exact flat_no _ | exact (fun _ h => nomatch h) | apply And.intro)) fun S q pc hS hq hC hE => ?_
  conv => whnf
  refine sym_unroll hE hS ?_
  conv => whnf
  rw [show decide ((0:Int) < (((x :: r).length:Nat):Int)) = true from decide_eq_true (by simp only [List.length_cons];omega)]
  conv => whnf
  refine bool_true (inR_t (i :=0) (n :=(x :: r).length) (by simp)) ?_
  conv => whnf
  rw [show IntKind.i64.wrap (0 - 1) = -1 from wrapI (by decide) (by decide)]
  conv => whnf
  refine sym_pure hC (rin_pure x 0 (-1)) ?_
  conv => whnf
  rw [decide_eq_false (show ¬ (0 ≤ x ∧ x ≤ -1) by omega)]
  conv => whnf
  refine sym_drawn hS (by kernel_rfl) ?_
  conv => whnf
  exact ⟨_,rfl,Wk.refl _⟩
theorem set_b {v u:AV} {f l:List Int} (hv:IL v f) (hu:IL u l) (hf:f.length < 4611686018427387904) (hl:l.length < 4611686018427387904) :
  ∃ b,Pure prog 86 [v,u] (.bool b) ∧ Pure prog 31 [v,u] (.bool b) ∧ (b = true ↔ seOk f.length l) :=by
 have e0:∀ n,seOk n [] :=fun _ _ h => absurd h (Nat.not_lt_zero _)
 rcases hu with ⟨rfl,rfl⟩ | rfl
 ·have :=set_nil v f hv
  exact ⟨true,this.1,this.2,fun _ => e0 _,fun _ => rfl⟩
 ·rcases hv with ⟨rfl,rfl⟩ | rfl
  ·cases l with
   |nil =>
    refine ⟨true,?_,?_,fun _ => e0 _,fun _ => rfl⟩
    ·refine pure_sym hE rfl (by repeat' (first | exact trivial | assumption | exact flat_no _ | exact (fun _ h => nomatch h) | apply And.intro)) (by repeat' (first | exact trivial | assumption | exact flat_no _ | exact (fun _ h => nomatch h) | apply And.intro)) fun S q pc hS hq hC hE => ?_
     conv => whnf
     refine sym_unroll hE hS ?_
     conv => whnf
     exact ⟨_,rfl,Wk.refl _⟩
    ·refine pure_sym hE rfl (by repeat' (first | exact trivial | assumption | exact flat_no _ | exact (fun _ h => nomatch h) | apply And.intro)) (by repeat' (first | exact trivial | assumption | exact flat_no _ | exact (fun _ h => nomatch h) | apply And.intro)) fun S q pc hS hq hC hE => ?_
     conv => whnf
     refine sym_unroll hE hS ?_
     conv => whnf
     exact ⟨_,rfl,Wk.refl _⟩
   |cons x r =>
    have :=set_none x r
    refine ⟨false,this.1,this.2,iff_of_false Bool.false_ne_true fun k => ?_⟩
    have h :=(k 0 (by simp)).1
    have h1:(0:Int) ≤ x ∧ x ≤ ((0:Nat):Int) - 1 :=h
    omega
  ·have hb :=Classical.propDecidable (seOk f.length l)
   exact ⟨decide (seOk f.length l),areSettings_pure f l hf hl decide_eq_true_iff,rSet_pure f l hf hl decide_eq_true_iff,decide_eq_true_iff⟩
def days (f s:List Int):List Int :=s.map fun x => gi f x.toNat
theorem days_len (f s:List Int):(days f s).length = s.length :=List.length_map _
theorem days_gi (f s:List Int) {i:Nat} (h:i < s.length):gi (days f s) i = gi f (gi s i).toNat :=by
 simp [gi,days,List.getD,h]
theorem drop_gi (l:List Int) {i:Nat} (h:i < l.length):l.drop i = gi l i :: l.drop (i + 1) :=by
 rw [List.drop_eq_getElem_cons h]
 simp [gi,List.getD,h]
structure Days (f s:List Int):Prop where
 fl:f.length ≤ 8
 ix:∀ i,i < s.length → (0 ≤ gi s i ∧ gi s i < f.length)
 rg:∀ i,i < s.length → (1 ≤ gi f (gi s i).toNat ∧ gi f (gi s i).toNat ≤ 10000)
 up:∀ i,i + 1 < s.length → gi f (gi s i).toNat < gi f (gi s (i + 1)).toNat
 sl:s.length ≤ f.length
theorem fe_up {f:List Int} (h:feOk f):∀ (k i:Nat),i + k < f.length → 0 < k → gi f i < gi f (i + k)
 | 0,_,_,hk => absurd hk (Nat.lt_irrefl _)
 |k + 1,i,hi,_ => by
  have h1 :=(h.1 (i + (k + 1)) hi).2 (by omega)
  have e:i + (k + 1) - 1 = i + k :=by omega
  rw [e] at h1
  by_cases k0:k = 0
  ·subst k0;exact h1
  ·have :=fe_up h k i (by omega) (by omega)
   omega
theorem se_ge {n:Nat} {s:List Int} (h:seOk n s):∀ i,i < s.length → (i:Int) ≤ gi s i
 | 0,hi => (h 0 hi).1.1
 |i + 1,hi => by
  have h1 :=(h (i + 1) hi).2 (by omega)
  have h2 :=se_ge h i (by omega)
  simp only [Nat.add_sub_cancel] at h1
  omega
theorem Days.of {f s:List Int} (hf:feOk f) (hs:seOk f.length s):Days f s where
 fl :=hf.2
 ix :=fun i hi => by have :=(hs i hi).1;omega
 rg :=fun i hi => by
  have :=(hs i hi).1
  exact (hf.1 _ (by omega)).1
 up :=fun i hi => by
  have h1 :=(hs i (by omega)).1
  have h2 :=(hs (i + 1) hi).1
  have h3 :=(hs (i + 1) hi).2 (by omega)
  simp only [Nat.add_sub_cancel] at h3
  have e:(gi s (i + 1)).toNat = (gi s i).toNat + ((gi s (i + 1)).toNat - (gi s i).toNat) :=by omega
  rw [e]
  exact fe_up hf _ _ (by omega) (by omega)
 sl :=by
  by_cases h:s.length = 0
  ·omega
  ·have h1 :=se_ge hs (s.length - 1) (by omega)
   have h2 :=(hs (s.length - 1) (by omega)).1
   omega
def kp (L u:Int):Int → List Int → Prop
 |last,[] => u - last ≤ L
 |last,x :: r => if x < u then x - last ≤ L ∧ kp L u x r else u - last ≤ L
theorem inR_i {i:Int} {n:Nat} (h:0 ≤ i ∧ i < n):inR i n = true :=by
 unfold inR
 rw [decide_eq_true h.1,decide_eq_true h.2];rfl
theorem keeps_pure (f s:List Int) (hd:Days f s) (L u:Nat) (_hL:L ≤ 10000) (hu:u ≤ 10000) {b:Bool} (hb:b = true ↔ kp L u 0 (days f s)) :
  Pure prog 80 [nv L,nl f,nl s,nv u] (.bool b) :=by
 have ls :=ivs_no s
 have lf :=ivs_no f
 have sl :=hd.sl
 have fl :=hd.fl
 refine pure_sym hE rfl (by repeat' (first | exact trivial | assumption | exact flat_no _ | exact (fun _ h => nomatch h) | apply And.intro)) (by repeat' (first | exact trivial | assumption | exact flat_no _ | exact (fun _ h => nomatch h) | apply And.intro)) fun S q pc hS hq hC hE => ?_
 conv => whnf
 refine sym_loop hE hS (A :=Nat × Int) [0,1,3,12,13] (fun (i,t) => [(9,iv t),(14,nv i)]) (fun _ => [])
  (fun (i,t) => i ≤ s.length ∧ (b = true ↔ kp L u t ((days f s).drop i)) ∧ (0 ≤ t ∧ t ≤ u) ∧ (i < s.length → t < gi f (gi s i).toNat)) (fun (i,_) => s.length - i) (0,0) rfl rfl (by refine ⟨rfl,rfl,rfl,rfl,?_,?_⟩ <;> repeat' (first | exact trivial | exact rfl | exact Nat.zero_le _ | exact Nat.le_of_ble_eq_true rfl | exact bdl_no (by assumption) | exact bdl_no (flat_no _) | exact bdl_no (ivs_no _) | exact Nat.max_le.2 ⟨Nat.le_of_ble_eq_true rfl,bdl_no (ivs_no _)⟩ | apply And.intro))
  ⟨Nat.zero_le _,hb,⟨Int.le_refl _,by omega⟩,fun h => by have :=(hd.rg 0 h).1;omega⟩ ?_
 rintro ⟨i,t⟩ ⟨hi,hk,ht,hn⟩
 conv => whnf
 by_cases h:i < s.length
 ·have hix :=hd.ix i h
  have hrg :=hd.rg i h
  rw [drop_gi _ (by rw [days_len];exact h),days_gi _ _ h] at hk
  rw [show decide (Int.ofNat i < ↑s.length) = true from ltN_t h]
  conv => whnf
  refine bool_true (inR_t (i :=i) (n :=s.length) h) ?_
  conv => whnf
  refine plan_as (nthP (nth_ivs1 (l :=s) (i :=i) h)) ?_
  conv => whnf
  obtain ⟨x,hx⟩ : ∃ x,gi f (gi s i).toNat = x :=⟨_,rfl⟩
  have nx:nth (ivs f) ((gi s i).toNat * 1) = some (iv x) :=by rw [nth_ivs1 (by omega),hx]
  have hup :=fun k => hd.up i k
  rw [hx] at hk hn hrg hup
  have hn :=hn h
  refine bool_true (inR_i hix) ?_
  conv => whnf
  refine plan_as (nthP (nx)) ?_
  conv => whnf
  rw [kp] at hk
  by_cases h1:x > Int.ofNat u
  ·rw [decide_eq_true h1]
   conv => whnf
   rw [show IntKind.i64.wrap (Int.ofNat u - t) = Int.ofNat u - t from wrapI (by simp only [Int.ofNat_eq_natCast];omega) (by simp only [Int.ofNat_eq_natCast];omega)]
   refine ⟨_,rfl,wkb ?_⟩
   have h1:(u:Int) < x :=h1
   rw [if_neg (by omega)] at hk
   exact (decT hk).symm
  ·rw [decide_eq_false h1]
   conv => whnf
   have h1:¬ (u:Int) < x :=h1
   refine bool_true (inR_i hix) ?_
   conv => whnf
   refine plan_as (nthP (nx)) ?_
   conv => whnf
   rw [show IntKind.i64.wrap (x - t) = x - t from wrapI (by omega) (by omega)]
   by_cases h2:x - t > Int.ofNat L
   ·rw [decide_eq_true h2]
    conv => whnf
    refine ⟨_,rfl,wkb (bfalse hk ?_).symm⟩
    have h2:(L:Int) < x - t :=h2
    split
    ·omega
    ·omega
   ·rw [decide_eq_false h2]
    conv => whnf
    have h2:¬ (L:Int) < x - t :=h2
    refine bool_true (inR_i hix) ?_
    conv => whnf
    refine plan_as (nthP (nx)) ?_
    conv => whnf
    rw [show IntKind.i64.wrap (Int.ofNat i + 1) = Int.ofNat (i + 1) from wrapN (m :=i + 1) (by omega)]
    refine ⟨(i + 1,x),⟨h,?_,by omega,fun k => hup k⟩,by show s.length - (i + 1) < s.length - i;omega,(by refine ⟨rfl,rfl,rfl,rfl,?_,?_⟩ <;> repeat' (first | exact trivial | exact rfl | exact Nat.zero_le _ | exact Nat.le_of_ble_eq_true rfl | exact bdl_no (by assumption) | exact bdl_no (flat_no _) | exact bdl_no (ivs_no _) | exact Nat.max_le.2 ⟨Nat.le_of_ble_eq_true rfl,bdl_no (ivs_no _)⟩ | apply And.intro))⟩
    rw [hk]
    by_cases h3:x < u
    ·rw [if_pos h3]
     exact ⟨fun k => k.2,fun k => ⟨by omega,k⟩⟩
    ·rw [if_neg h3]
     have hxu:x = u :=by omega
     refine ⟨fun _ => ?_,fun _ => by omega⟩
     by_cases h4:i + 1 < s.length
     ·rw [drop_gi _ (by rw [days_len];exact h4),days_gi _ _ h4,kp,if_neg (by have :=hup h4;omega)]
      omega
     ·rw [List.drop_eq_nil_of_le (by rw [days_len];omega),kp]
      omega
 ·rw [show decide (Int.ofNat i < ↑s.length) = false from ltN_f h]
  conv => whnf
  rw [show IntKind.i64.wrap (Int.ofNat u - t) = Int.ofNat u - t from wrapI (by simp only [Int.ofNat_eq_natCast];omega) (by simp only [Int.ofNat_eq_natCast];omega)]
  rw [List.drop_eq_nil_of_le (by rw [days_len];omega),kp] at hk
  exact ⟨_,rfl,wkb (decT hk).symm⟩
theorem keeps_nil {w:AV} {f:List Int} (hw:IL w f) (L u:Nat) (hu:u ≤ 10000) {b:Bool} (hb:b = true ↔ kp L u 0 []) :
  Pure prog 80 [nv L,w,.nils,nv u] (.bool b) :=by
 have lw :=hw.no
 rcases hw with ⟨rfl,rfl⟩ | rfl
 all_goals
  refine pure_sym hE rfl (by repeat' (first | exact trivial | assumption | exact flat_no _ | exact (fun _ h => nomatch h) | apply And.intro)) (by repeat' (first | exact trivial | assumption | exact flat_no _ | exact (fun _ h => nomatch h) | apply And.intro)) fun S q pc hS hq hC hE => ?_
  conv => whnf
  refine sym_unroll hE hS ?_
  conv => whnf
  rw [show IntKind.i64.wrap (Int.ofNat u - 0) = Int.ofNat u - 0 from wrapI (by simp only [Int.ofNat_eq_natCast];omega) (by simp only [Int.ofNat_eq_natCast];omega)]
  rw [kp] at hb
  exact ⟨_,rfl,wkb (decT hb).symm⟩
theorem tmodN {a b:Nat}:(Int.ofNat a).tmod (Int.ofNat b) = Int.ofNat (a % b) :=rfl
theorem circN {a:Nat} (h:a * 21600 < 9223372036854775808):IntKind.i64.wrap (Int.ofNat a * 21600) = Int.ofNat (a * 21600) :=mulN (a :=a) (b :=21600) h
def lastD (u:Int):Int → List Int → Int
 |t,[] => t
 |t,x :: r => if x ≤ u then lastD u x r else t
def shV (x y n d t u:Nat):Nat :=(n * t * y + x * (u - t) * d) % (y * d) * 21600 / (y * d)
theorem sh_le {n d x y t u:Nat} (hn:n ≤ 50000) (hd:d ≤ 50000) (hx:x ≤ 216000) (hy:y ≤ 216000) (ht:t ≤ u) (hu:u ≤ 10000) :
  n * t ≤ 500000000 ∧ n * t * y ≤ 108000000000000 ∧ x * (u - t) ≤ 2160000000 ∧ x * (u - t) * d ≤ 108000000000000 ∧ y * d ≤ 10800000000 :=by
 have b1:n * t ≤ 50000 * 10000 :=Nat.mul_le_mul hn (by omega)
 have b2:n * t * y ≤ 500000000 * 216000 :=Nat.mul_le_mul (by omega) hy
 have b3:x * (u - t) ≤ 216000 * 10000 :=Nat.mul_le_mul hx (by omega)
 have b4:x * (u - t) * d ≤ 2160000000 * 50000 :=Nat.mul_le_mul (by omega) hd
 have b5:y * d ≤ 216000 * 50000 :=Nat.mul_le_mul hy hd
 omega
theorem shown_pure {v:AV} {k x y:Nat} (hv:TV v k x y) (n d:Nat) (hn:n ≤ 50000) (hnd:1 ≤ d ∧ d ≤ 50000) (f s:List Int) (hd:Days f s) (pf:Pure prog 76 [nl f] (.bool true)) (ps:Pure prog 86 [nl f,nl s] (.bool true)) (u T:Nat) (hu:u ≤ 10000)
  (hT:lastD u 0 (days f s) = T) :
  Pure prog 33 [v,fv (Int.ofNat n) (Int.ofNat d),nl f,nl s,nv u] (.tup [nv (shV x y n d T u),iv 0]) :=by
 have ls :=ivs_no s
 have lf :=ivs_no f
 have sl :=hd.sl
 have fl :=hd.fl
 have hyd:1 ≤ y * d :=Nat.mul_pos hv.by_.1 hnd.1
 obtain ⟨xs,rfl,lx⟩ :=hv.sh
 refine pure_sym hE rfl (by repeat' (first | exact trivial | assumption | exact flat_no _ | exact (fun _ h => nomatch h) | apply And.intro)) (by repeat' (first | exact trivial | assumption | exact flat_no _ | exact (fun _ h => nomatch h) | apply And.intro)) fun S q pc hS hq hC hE => ?_
 conv => whnf
 refine sym_pure hC (hv.isT) ?_
 conv => whnf
 refine sym_pure hC (isFraction_pure _ _) ?_
 conv => whnf
 rw [decide_eq_true (isF_N hn hnd.1 hnd.2)]
 conv => whnf
 refine sym_pure hC (pf) ?_
 conv => whnf
 refine sym_pure hC (ps) ?_
 conv => whnf
 refine sym_pure hC (isTurn_pure _) ?_
 conv => whnf
 rw [decide_eq_true (rng (t :=u) (m :=10000) (by omega))]
 conv => whnf
 refine sym_loop hE hS (A :=Nat × Nat) [0,2,3,4,6,42,43] (fun (i,t) => [(12,nv t),(44,nv i)]) (fun _ => [])
  (fun (i,t) => i ≤ s.length ∧ lastD u t ((days f s).drop i) = T ∧ t ≤ u) (fun (i,_) => s.length - i) (0,0) rfl rfl (by refine ⟨rfl,rfl,rfl,rfl,?_,?_⟩ <;> repeat' (first | exact trivial | exact rfl | exact Nat.zero_le _ | exact Nat.le_of_ble_eq_true rfl | exact bdl_no (by assumption) | exact bdl_no (flat_no _) | exact bdl_no (ivs_no _) | exact Nat.max_le.2 ⟨Nat.le_of_ble_eq_true rfl,bdl_no (ivs_no _)⟩ | apply And.intro))
  ⟨Nat.zero_le _,hT,Nat.zero_le _⟩ ?_
 rintro ⟨i,t⟩ ⟨hi,hk,ht⟩
 conv => whnf
 by_cases h:i < s.length
 ·have hix :=hd.ix i h
  have hrg :=hd.rg i h
  rw [drop_gi _ (by rw [days_len];exact h),days_gi _ _ h] at hk
  rw [show decide (Int.ofNat i < ↑s.length) = true from ltN_t h]
  conv => whnf
  refine bool_true (inR_t (i :=i) (n :=s.length) h) ?_
  conv => whnf
  refine plan_as (nthP (nth_ivs1 (l :=s) (i :=i) h)) ?_
  conv => whnf
  obtain ⟨z,hx⟩ : ∃ z,gi f (gi s i).toNat = z :=⟨_,rfl⟩
  have nx:nth (ivs f) ((gi s i).toNat * 1) = some (iv z) :=by rw [nth_ivs1 (by omega),hx]
  have hup :=fun k => hd.up i k
  rw [hx] at hk hrg hup
  refine bool_true (inR_i hix) ?_
  conv => whnf
  refine plan_as (nthP (nx)) ?_
  conv => whnf
  rw [lastD] at hk
  by_cases h1:z ≤ Int.ofNat u
  ·rw [decide_eq_true h1]
   conv => whnf
   have h1:z ≤ (u:Int) :=h1
   refine bool_true (inR_i hix) ?_
   conv => whnf
   refine plan_as (nthP (nx)) ?_
   conv => whnf
   obtain ⟨w,rfl,hw1⟩ : ∃ w:Nat,z = Int.ofNat w ∧ w ≤ u :=⟨z.toNat,by show z = ((z.toNat:Nat):Int);omega,by omega⟩
   rw [show IntKind.i64.wrap (Int.ofNat i + 1) = Int.ofNat (i + 1) from wrapN (m :=i + 1) (by omega)]
   rw [if_pos h1] at hk
   exact ⟨(i + 1,w),⟨h,hk,hw1⟩,by show s.length - (i + 1) < s.length - i;omega,(by refine ⟨rfl,rfl,rfl,rfl,?_,?_⟩ <;> repeat' (first | exact trivial | exact rfl | exact Nat.zero_le _ | exact Nat.le_of_ble_eq_true rfl | exact bdl_no (by assumption) | exact bdl_no (flat_no _) | exact bdl_no (ivs_no _) | exact Nat.max_le.2 ⟨Nat.le_of_ble_eq_true rfl,bdl_no (ivs_no _)⟩ | apply And.intro))⟩
  ·rw [decide_eq_false h1]
   conv => whnf
   have h1:¬ z ≤ (u:Int) :=h1
   rw [show IntKind.i64.wrap (Int.ofNat i + 1) = Int.ofNat (i + 1) from wrapN (m :=i + 1) (by omega)]
   rw [if_neg h1] at hk
   refine ⟨(i + 1,t),⟨h,?_,ht⟩,by show s.length - (i + 1) < s.length - i;omega,(by refine ⟨rfl,rfl,rfl,rfl,?_,?_⟩ <;> repeat' (first | exact trivial | exact rfl | exact Nat.zero_le _ | exact Nat.le_of_ble_eq_true rfl | exact bdl_no (by assumption) | exact bdl_no (flat_no _) | exact bdl_no (ivs_no _) | exact Nat.max_le.2 ⟨Nat.le_of_ble_eq_true rfl,bdl_no (ivs_no _)⟩ | apply And.intro))⟩
   by_cases h4:i + 1 < s.length
   ·rw [drop_gi _ (by rw [days_len];exact h4),days_gi _ _ h4,lastD,if_neg (by have :=hup h4;omega)]
    exact hk
   ·rw [List.drop_eq_nil_of_le (by rw [days_len];omega),lastD]
    exact hk
 ·rw [show decide (Int.ofNat i < ↑s.length) = false from ltN_f h]
  conv => whnf
  rw [List.drop_eq_nil_of_le (by rw [days_len];omega),lastD] at hk
  have hk:t = T :=by omega
  subst hk
  have b :=sh_le hn hnd.2 hv.bx.2 hv.by_.2 ht hu
  refine sym_pure hC (hv.tu) ?_
  conv => whnf
  rw [mulN (a :=y) (b :=d) (by omega),mulN (a :=n) (b :=t) (by omega),mulN (a :=n * t) (b :=y) (by omega),subN (a :=u) (b :=t) (by omega),wrapN (m :=u - t) (by omega),mulN (a :=x) (b :=u - t) (by omega),mulN (a :=x * (u - t)) (b :=d) (by omega),addN (a :=n * t * y) (b :=x * (u - t) * d) (by omega)]
  conv => whnf
  refine bool_true (ne0 hyd) ?_
  conv => whnf
  refine bool_true (ne0 hyd) ?_
  conv => whnf
  have hm:(n * t * y + x * (u - t) * d) % (y * d) < y * d :=Nat.mod_lt _ hyd
  rw [tmodN,circN (by omega),quoN (by omega)]
  exact ⟨_,rfl,Wk.refl _⟩
theorem shown_nil {v:AV} {k x y:Nat} (hv:TV v k x y) (n d:Nat) (hn:n ≤ 50000) (hnd:1 ≤ d ∧ d ≤ 50000) {w z:AV} {f:List Int} (hf:IL w f) (hz:z = .nils ∨ z = nl []) (pf:Pure prog 76 [w] (.bool true)) (ps:Pure prog 86 [w,z] (.bool true)) (u:Nat) (hu:u ≤ 10000) :
  Pure prog 33 [v,fv (Int.ofNat n) (Int.ofNat d),w,z,nv u] (.tup [nv (shV x y n d 0 u),iv 0]) :=by
 have hyd:1 ≤ y * d :=Nat.mul_pos hv.by_.1 hnd.1
 have b :=sh_le hn hnd.2 hv.bx.2 hv.by_.2 (Nat.zero_le u) hu
 have hm:(n * 0 * y + x * (u - 0) * d) % (y * d) < y * d :=Nat.mod_lt _ hyd
 have lw :=hf.no
 obtain ⟨xs,rfl,lx⟩ :=hv.sh
 rcases hf with ⟨rfl,rfl⟩ | rfl <;> rcases hz with rfl | rfl
 all_goals
  refine pure_sym hE rfl (by repeat' (first | exact trivial | assumption | exact flat_no _ | exact (fun _ h => nomatch h) | apply And.intro)) (by repeat' (first | exact trivial | assumption | exact flat_no _ | exact (fun _ h => nomatch h) | apply And.intro)) fun S q pc hS hq hC hE => ?_
  conv => whnf
  refine sym_pure hC (hv.isT) ?_
  conv => whnf
  refine sym_pure hC (isFraction_pure _ _) ?_
  conv => whnf
  rw [decide_eq_true (isF_N hn hnd.1 hnd.2)]
  conv => whnf
  refine sym_pure hC (pf) ?_
  conv => whnf
  refine sym_pure hC (ps) ?_
  conv => whnf
  refine sym_pure hC (isTurn_pure _) ?_
  conv => whnf
  rw [decide_eq_true (rng (t :=u) (m :=10000) (by omega))]
  conv => whnf
  refine sym_unroll hE hS ?_
  conv => whnf
  refine sym_pure hC (hv.tu) ?_
  conv => whnf
  rw [mulN (a :=y) (b :=d) (by omega),show IntKind.i64.wrap (Int.ofNat n * 0) = Int.ofNat (n * 0) from mulN (a :=n) (b :=0) (by omega),mulN (a :=n * 0) (b :=y) (by omega),show IntKind.i64.wrap (Int.ofNat u - 0) = Int.ofNat (u - 0) from wrapN (m :=u) (by omega),mulN (a :=x) (b :=u - 0) (by omega),mulN (a :=x * (u - 0)) (b :=d) (by omega),addN (a :=n * 0 * y) (b :=x * (u - 0) * d) (by omega)]
  conv => whnf
  refine bool_true (ne0 hyd) ?_
  conv => whnf
  refine bool_true (ne0 hyd) ?_
  conv => whnf
  rw [tmodN,circN (by omega),quoN (by omega)]
  exact ⟨_,rfl,Wk.refl _⟩
end Go.Abs.Seat
/-! Calendars, moons and feasts, plainly. -/
namespace Go.Abs.Seat
def calOk (E:Int) (C:List Int):Prop :=(0 ≤ E ∧ E ≤ 1000) ∧ (1 ≤ C.length ∧ C.length ≤ 3) ∧ ∀ i,i < C.length → (2 ≤ gi C i ∧ gi C i ≤ 1000) ∧ (0 < i → gi C (i - 1) < gi C i)
def moonOk (n d a:Int):Prop :=(1 ≤ d ∧ d ≤ 1000) ∧ (29 * d ≤ n ∧ n ≤ 30 * d) ∧ 0 ≤ a ∧ a ≤ n - 1
noncomputable instance (E:Int) (C:List Int):Decidable (calOk E C) :=Classical.propDecidable _
instance (n d a:Int):Decidable (moonOk n d a) :=inferInstanceAs (Decidable (_ ∧ _))
def lpF (y:Int):Bool → List Int → Bool
 |o,[] => o
 |o,c :: r => lpF y (if y.tmod c = 0 then !o else o) r
abbrev leapB (C:List Int) (y:Int):Bool :=lpF y false C
def dlB (b:Bool):Int :=match b with | true => 366 | false => 365
def fdY (E:Int) (C:List Int):Nat → Int
 | 0 => E
 |k + 1 => fdY E C k + dlB (leapB C (Int.ofNat k))
theorem dlB_le (b:Bool):365 ≤ dlB b ∧ dlB b ≤ 366 :=by cases b <;> exact ⟨by decide,by decide⟩
theorem fdY_le (E:Int) (C:List Int):∀ k:Nat,E + 365 * (k:Int) ≤ fdY E C k ∧ fdY E C k ≤ E + 366 * (k:Int)
 | 0 => by simp [fdY]
 |k + 1 => by
  have h1 :=fdY_le E C k
  have h2 :=dlB_le (leapB C (Int.ofNat k))
  rw [fdY]
  refine ⟨?_,?_⟩ <;> omega
def fdL (E:Int) (C:List Int):Nat → List Int
 | 0 => []
 |k + 1 => fdL E C k ++ [fdY E C k]
theorem fdL_len (E:Int) (C:List Int):∀ k,(fdL E C k).length = k
 | 0 => rfl
 |k + 1 => by rw [fdL,List.length_append,fdL_len E C k];rfl
theorem fdL_get (E:Int) (C:List Int):∀ (k i:Nat),i < k → gi (fdL E C k) i = fdY E C i
 |k + 1,i,h => by
  have hl :=fdL_len E C k
  rw [fdL]
  by_cases e:i = k
  ·subst e;simp [gi,List.getD,hl]
  ·have :=fdL_get E C k i (by omega)
   have h3:i < (fdL E C k).length :=by omega
   simp only [gi,List.getD,List.getElem?_append_left h3] at this ⊢
   exact this
def monL (b:Bool):List Int :=match b with | true => [31,29,31,30,31,30,31,31,30,31,30,31] | false => [31,28,31,30,31,30,31,31,30,31,30,31]
def lsumI:List Int → Int
 | [] => 0
 |x :: r => x + lsumI r
theorem monL_len (b:Bool):(monL b).length = 12 :=by cases b <;> rfl
def intoD (b:Bool) (m:Nat) (d:Int):Int :=lsumI ((monL b).take (m - 1)) + d - 1
def dateOk (b:Bool) (m d:Int):Prop :=(1 ≤ m ∧ m ≤ 12) ∧ 1 ≤ d ∧ d ≤ gi (monL b) (m - 1).toNat
instance (b:Bool) (m d:Int):Decidable (dateOk b m d) :=inferInstanceAs (Decidable (_ ∧ _))
theorem intoD_le {b:Bool} {m:Nat} {d:Int} (h:dateOk b (Int.ofNat m) d):0 ≤ intoD b m d ∧ intoD b m d ≤ 365 :=by
 obtain ⟨⟨h1,h2⟩,h3,h4⟩ :=h
 have h1:1 ≤ m :=by have:(1:Int) ≤ (m:Int) :=h1;omega
 have h2:m ≤ 12 :=by have:(m:Int) ≤ 12 :=h2;omega
 have key:∀ b:Bool,∀ k:Nat,k < 12 → 0 ≤ lsumI ((monL b).take k) ∧ lsumI ((monL b).take k) + gi (monL b) k ≤ 366 :=by decide
 have hk :=key b (m - 1) (by omega)
 have e:(Int.ofNat m - 1).toNat = m - 1 :=by show ((m:Int) - 1).toNat = _;omega
 rw [e] at h4
 unfold intoD
 omega
def nwM (n d a k:Int):Int :=(k * n + a) / d
def ageM (n d a x:Int):Int :=x - nwM n d a (((x + 1) * d - 1 - a) / n)
theorem down_eq (a b:Int) (hb:0 < b):(if b * a.tdiv b > a then a.tdiv b - 1 else a.tdiv b) = a / b :=by
 have h1 :=Int.mul_tdiv_add_tmod a b
 have h2:a.tmod b < b :=Int.tmod_lt_of_pos a hb
 have h3:-b < a.tmod b :=Int.lt_tmod_of_pos a hb
 generalize hq:a.tdiv b = q at *
 generalize hr:a.tmod b = r at *
 split
 ·next h =>
  apply Eq.symm
  apply Int.le_antisymm
  ·apply Int.le_sub_one_of_lt
   apply Int.ediv_lt_of_lt_mul hb
   rw [Int.mul_comm];omega
  ·apply (Int.le_ediv_iff_mul_le hb).2
   rw [Int.sub_mul,Int.mul_comm q b];omega
 ·next h =>
  apply Eq.symm
  apply Int.le_antisymm
  ·apply Int.le_of_lt_add_one
   apply Int.ediv_lt_of_lt_mul hb
   rw [Int.add_mul,Int.mul_comm q b];omega
  ·apply (Int.le_ediv_iff_mul_le hb).2
   rw [Int.mul_comm];omega
theorem nwM_le {n d a k x:Int} (hd:0 < d):nwM n d a k ≤ x ↔ k * n + a < (x + 1) * d :=by
 unfold nwM
 rw [← Int.ediv_lt_iff_lt_mul hd]
 omega
theorem ageM_of {n d a k x:Int} (h:moonOk n d a) (h1:nwM n d a k ≤ x) (h2:x < nwM n d a (k + 1)):ageM n d a x = x - nwM n d a k :=by
 have hd:0 < d :=by have :=h.1.1;omega
 have hn:0 < n :=by have :=h.1.1;have :=h.2.1.1;omega
 have e:((x + 1) * d - 1 - a) / n = k :=by
  have k1 :=(nwM_le hd).1 h1
  have k2:¬ nwM n d a (k + 1) ≤ x :=by omega
  have k3:(k + 1) * n = k * n + n :=by rw [Int.add_mul,Int.one_mul]
  have k2:¬ k * n + n + a < (x + 1) * d :=fun z => k2 ((nwM_le hd).2 (by rw [k3];exact z))
  apply Int.le_antisymm
  ·apply Int.le_of_lt_add_one
   apply Int.ediv_lt_of_lt_mul hn
   rw [k3];omega
  ·apply (Int.le_ediv_iff_mul_le hn).2
   omega
 unfold ageM
 rw [e]
theorem moon_bounds {n d a:Int} (h:moonOk n d a) (k:Int):nwM n d a k + 29 ≤ nwM n d a (k + 1) ∧ nwM n d a (k + 1) ≤ nwM n d a k + 30 :=by
 have hd:0 < d :=by have :=h.1.1;omega
 obtain ⟨_,⟨h1,h2⟩,_⟩ :=h
 unfold nwM
 rw [Int.add_mul,Int.one_mul]
 refine ⟨?_,?_⟩
 ·rw [← Int.add_mul_ediv_right _ _ (Int.ne_of_gt hd)]
  apply Int.ediv_le_ediv hd
  omega
 ·rw [← Int.add_mul_ediv_right _ _ (Int.ne_of_gt hd)]
  apply Int.ediv_le_ediv hd
  omega
theorem age_in {n d a:Int} (h:moonOk n d a) (x:Int):∃ k,nwM n d a k ≤ x ∧ x < nwM n d a (k + 1) :=by
 have hd:0 < d :=by have :=h.1.1;omega
 have hn:0 < n :=by have :=h.1.1;have :=h.2.1.1;omega
 refine ⟨((x + 1) * d - 1 - a) / n,?_,?_⟩
 ·apply (nwM_le hd).2
  have :=Int.ediv_mul_le ((x + 1) * d - 1 - a) (Int.ne_of_gt hn)
  omega
 ·apply Int.lt_of_not_ge
  intro z
  have z :=(nwM_le hd).1 z
  have :=Int.lt_ediv_add_one_mul_self ((x + 1) * d - 1 - a) hn
  omega
theorem age_full {n d a:Int} (h:moonOk n d a) (x:Int):∃ j:Nat,j ≤ 43 ∧ ageM n d a (x + Int.ofNat j) = 13 :=by
 obtain ⟨k,h1,h2⟩ :=age_in h x
 have b :=moon_bounds h k
 have b2 :=moon_bounds h (k + 1)
 by_cases h3:x ≤ nwM n d a k + 13
 ·refine ⟨(nwM n d a k + 13 - x).toNat,by omega,?_⟩
  rw [show x + Int.ofNat (nwM n d a k + 13 - x).toNat = nwM n d a k + 13 by show x + (((nwM n d a k + 13 - x).toNat:Nat):Int) = _;omega]
  rw [ageM_of h (k :=k) (by omega) (by omega)]
  omega
 ·refine ⟨(nwM n d a (k + 1) + 13 - x).toNat,by omega,?_⟩
  rw [show x + Int.ofNat (nwM n d a (k + 1) + 13 - x).toNat = nwM n d a (k + 1) + 13 by show x + (((nwM n d a (k + 1) + 13 - x).toNat:Nat):Int) = _;omega]
  rw [ageM_of h (k :=k + 1) (by omega) (by omega)]
  omega
theorem age_first {n d a:Int} (h:moonOk n d a) (x:Int):∃ j:Nat,j ≤ 43 ∧ ageM n d a (x + Int.ofNat j) = 13 ∧ ∀ i,i < j → ¬ ageM n d a (x + Int.ofNat i) = 13 :=by
 obtain ⟨j,hj,he⟩ :=age_full h x
 have main:∀ m,∀ j,j ≤ m → ageM n d a (x + Int.ofNat j) = 13 → ∃ i,i ≤ j ∧ ageM n d a (x + Int.ofNat i) = 13 ∧ ∀ l,l < i → ¬ ageM n d a (x + Int.ofNat l) = 13 :=by
  intro m
  induction m with
  |zero => intro j hj he;exact ⟨j,Nat.le_refl _,he,fun l hl => by omega⟩
  |succ m ih =>
   intro j hj he
   by_cases hx:∃ l,l < j ∧ ageM n d a (x + Int.ofNat l) = 13
   ·obtain ⟨l,hl,hle⟩ :=hx
    obtain ⟨i,k1,k2,k3⟩ :=ih l (by omega) hle
    exact ⟨i,by omega,k2,k3⟩
   ·exact ⟨j,Nat.le_refl _,he,fun l hl z => hx ⟨l,hl,z⟩⟩
 obtain ⟨i,k1,k2,k3⟩ :=main j j (Nat.le_refl _) he
 exact ⟨i,by omega,k2,k3⟩
noncomputable section
open Classical in
def fullN (n d a x:Int):Nat :=if h:∃ j:Nat,j ≤ 43 ∧ ageM n d a (x + Int.ofNat j) = 13 ∧ ∀ i,i < j → ¬ ageM n d a (x + Int.ofNat i) = 13 then h.choose else 0
theorem fullN_ok {n d a:Int} (h:moonOk n d a) (x:Int):fullN n d a x ≤ 43 ∧ ageM n d a (x + Int.ofNat (fullN n d a x)) = 13 ∧ ∀ i,i < fullN n d a x → ¬ ageM n d a (x + Int.ofNat i) = 13 :=by
 have hx :=age_first h x
 unfold fullN
 rw [dif_pos hx]
 exact hx.choose_spec
def sunD (n d a x:Int):Int :=x + Int.ofNat (fullN n d a x) + (7 - (x + Int.ofNat (fullN n d a x) + 4).tmod 7)
theorem sunD_le {n d a:Int} (h:moonOk n d a) (x:Int) (hx:0 ≤ x):x + 1 ≤ sunD n d a x ∧ sunD n d a x ≤ x + 50 :=by
 have h1 :=(fullN_ok h x).1
 unfold sunD
 have e:Int.ofNat (fullN n d a x) = ((fullN n d a x:Nat):Int) :=rfl
 rw [e]
 rw [Int.tmod_eq_emod_of_nonneg (by omega)]
 omega
abbrev Ft :=Bool × Int × Int × Int
def ftOk (f:Ft):Prop :=match f.1 with | true => f.2.1 = 0 ∧ f.2.2.1 = 0 ∧ -60 ≤ f.2.2.2 ∧ f.2.2.2 ≤ 60 | false => (1 ≤ f.2.1 ∧ f.2.1 ≤ 12) ∧ (1 ≤ f.2.2.1 ∧ f.2.2.1 ≤ 31) ∧ f.2.2.2 = 0
instance (f:Ft):Decidable (ftOk f) :=Classical.propDecidable _
def gf (l:List Ft) (i:Nat):Ft :=l.getD i (false,0,0,0)
def ftD (E:Int) (C:List Int) (n d a:Int) (y:Nat) (f:Ft):Int :=match f.1 with
 |true => sunD n d a (fdY E C y + intoD (leapB C (Int.ofNat y)) 3 21) + f.2.2.2
 |false => if dateOk (leapB C (Int.ofNat y)) f.2.1 f.2.2.1 then fdY E C y + intoD (leapB C (Int.ofNat y)) f.2.1.toNat f.2.2.1 else -1
theorem ftD_le {E:Int} {C:List Int} {n d a:Int} {y:Nat} {f:Ft} (hE:0 ≤ E) (hm:moonOk n d a) (hf:ftOk f):ftD E C n d a y f = -1 ∨ fdY E C y ≤ ftD E C n d a y f ∧ ftD E C n d a y f ≤ fdY E C y + 365 :=by
 have h0 :=(fdY_le E C y).1
 obtain ⟨mv,mo,dy,af⟩ :=f
 cases mv with
 |true =>
  refine .inr ?_
  have hf:mo = 0 ∧ dy = 0 ∧ -60 ≤ af ∧ af ≤ 60 :=hf
  have hi:∀ b:Bool,79 ≤ intoD b 3 21 ∧ intoD b 3 21 ≤ 80 :=by decide
  have hi :=hi (leapB C (Int.ofNat y))
  have hs :=sunD_le hm (fdY E C y + intoD (leapB C (Int.ofNat y)) 3 21) (by omega)
  show fdY E C y ≤ sunD n d a (fdY E C y + intoD (leapB C (Int.ofNat y)) 3 21) + af ∧ sunD n d a (fdY E C y + intoD (leapB C (Int.ofNat y)) 3 21) + af ≤ _
  omega
 |false =>
  have hf:(1 ≤ mo ∧ mo ≤ 12) ∧ (1 ≤ dy ∧ dy ≤ 31) ∧ af = 0 :=hf
  show (if dateOk (leapB C (Int.ofNat y)) mo dy then fdY E C y + intoD (leapB C (Int.ofNat y)) mo.toNat dy else -1) = -1 ∨ _ ≤ (if dateOk (leapB C (Int.ofNat y)) mo dy then fdY E C y + intoD (leapB C (Int.ofNat y)) mo.toNat dy else -1) ∧ (if dateOk (leapB C (Int.ofNat y)) mo dy then fdY E C y + intoD (leapB C (Int.ofNat y)) mo.toNat dy else -1) ≤ _
  split
  ·next hd =>
   refine .inr ?_
   have e:mo = Int.ofNat mo.toNat :=by show mo = ((mo.toNat:Nat):Int);omega
   have hd2 :=hd
   rw [e] at hd2
   have :=intoD_le hd2
   omega
  ·exact .inl rfl
end
end Go.Abs.Seat

/-! The best of some settings. -/
namespace Go.Abs.Seat
open Go Go.Abs Go.Proofs.Tryz
set_option maxRecDepth 100000
set_option maxHeartbeats 4000000
attribute [local irreducible] pEq
section
attribute [local irreducible] IntKind.wrap
def lexI:List Int → List Int → Int
 | [],[] => 0
 | [],_ :: _ => -1
 | _ :: _,[] => 1
 |a :: r,b :: s => if ordI a b = 0 then lexI r s else ordI a b
def sv:List Int → AV
 | [] => .nils
 |x :: r => nl (x :: r)
theorem sv_no (l:List Int):Live noL (sv l) :=by
 cases l with
 |nil => trivial
 |cons x r => exact nl_no _
theorem lexI_end (a b:List Int) {i:Nat} (hi:i = a.length) (h2:i ≤ b.length):lexI (a.drop i) (b.drop i) = if (a.length:Int) < b.length then -1 else 0 :=by
 subst hi
 rw [List.drop_eq_nil_of_le (Nat.le_refl _)]
 by_cases h:a.length < b.length
 ·rw [if_pos (by omega),drop_gi b h];rfl
 ·rw [if_neg (by omega),List.drop_eq_nil_of_le (by omega)];rfl
theorem lex_pure (a b:List Int) (ha:a.length < 4611686018427387904) (_hb:b.length < 4611686018427387904):Pure prog 85 [nl a,nl b] (iv (lexI a b)) :=by
 have la :=ivs_no a
 have lb :=ivs_no b
 refine pure_sym hE rfl (by repeat' (first | exact trivial | assumption | exact flat_no _ | exact (fun _ h => nomatch h) | apply And.intro)) (by repeat' (first | exact trivial | assumption | exact flat_no _ | exact (fun _ h => nomatch h) | apply And.intro)) fun S q pc hS hq hC hE => ?_
 conv => whnf
 refine sym_loop hE hS (A :=Nat) [0,1,9,10] (fun i => [(11,nv i)]) (fun _ => []) (fun i => i ≤ a.length ∧ i ≤ b.length ∧ lexI (a.drop i) (b.drop i) = lexI a b) (fun i => a.length - i) 0 rfl rfl (by refine ⟨rfl,rfl,rfl,rfl,?_,?_⟩ <;> repeat' (first | exact trivial | exact rfl | exact Nat.zero_le _ | exact Nat.le_of_ble_eq_true rfl | exact bdl_no (by assumption) | exact bdl_no (flat_no _) | exact bdl_no (ivs_no _) | exact Nat.max_le.2 ⟨Nat.le_of_ble_eq_true rfl,bdl_no (ivs_no _)⟩ | apply And.intro)) ⟨Nat.zero_le _,Nat.zero_le _,rfl⟩ ?_
 intro i ⟨hi,hj,he⟩
 conv => whnf
 by_cases h:i < a.length
 ·rw [show decide (Int.ofNat i < ↑a.length) = true from ltN_t h]
  conv => whnf
  refine bool_true (inR_t (i :=i) (n :=a.length) h) ?_
  conv => whnf
  refine plan_as (nthP (nth_ivs1 (l :=a) (i :=i) h)) ?_
  conv => whnf
  by_cases h2:i < b.length
  ·rw [show decide ((b.length:Int) ≤ Int.ofNat i) = false from decide_eq_false (by show ¬ (b.length:Int) ≤ (i:Int);omega)]
   conv => whnf
   refine bool_true (inR_t (i :=i) (n :=b.length) h2) ?_
   conv => whnf
   refine plan_as (nthP (nth_ivs1 (l :=b) (i :=i) h2)) ?_
   conv => whnf
   refine sym_pure hC (cmp_pure (gi a i) (gi b i)) ?_
   conv => whnf
   rw [drop_gi a h,drop_gi b h2,lexI] at he
   by_cases h3:ordI (gi a i) (gi b i) = 0
   ·rw [if_pos h3] at he
    rw [show ((ordI (gi a i) (gi b i)) != 0) = false by rw [h3];rfl]
    conv => whnf
    rw [show IntKind.i64.wrap (Int.ofNat i + 1) = Int.ofNat (i + 1) from wrapN (m :=i + 1) (by omega)]
    exact ⟨i + 1,⟨h,h2,he⟩,by omega,(by refine ⟨rfl,rfl,rfl,rfl,?_,?_⟩ <;> repeat' (first | exact trivial | exact rfl | exact Nat.zero_le _ | exact Nat.le_of_ble_eq_true rfl | exact bdl_no (by assumption) | exact bdl_no (flat_no _) | exact bdl_no (ivs_no _) | exact Nat.max_le.2 ⟨Nat.le_of_ble_eq_true rfl,bdl_no (ivs_no _)⟩ | apply And.intro))⟩
   ·rw [if_neg h3] at he
    rw [show ((ordI (gi a i) (gi b i)) != 0) = true from bne_iff_ne.2 h3]
    conv => whnf
    rw [he]
    exact ⟨_,rfl,Wk.refl _⟩
  ·rw [show decide ((b.length:Int) ≤ Int.ofNat i) = true from decide_eq_true (by show (b.length:Int) ≤ (i:Int);omega)]
   conv => whnf
   have e0:b.drop i = [] :=List.drop_eq_nil_of_le (by omega)
   rw [drop_gi a h,e0] at he
   rw [← he]
   exact ⟨_,rfl,Wk.refl _⟩
 ·rw [show decide (Int.ofNat i < ↑a.length) = false from ltN_f h]
  conv => whnf
  rw [lexI_end a b (by omega) hj] at he
  by_cases h2:(a.length:Int) < b.length
  ·rw [if_pos h2] at he
   rw [decide_eq_true h2]
   conv => whnf
   rw [← he]
   exact ⟨_,rfl,Wk.refl _⟩
  ·rw [if_neg h2] at he
   rw [decide_eq_false h2]
   conv => whnf
   rw [← he]
   exact ⟨_,rfl,Wk.refl _⟩
theorem lex_sv (a b:List Int) (ha:a.length < 4611686018427387904) (hb:b.length < 4611686018427387904):Pure prog 85 [sv a,sv b] (iv (lexI a b)) :=by
 have la :=ivs_no a
 have lb :=ivs_no b
 cases a with
 |nil =>
  cases b with
  |nil =>
   show Pure prog _ [.nils,.nils] _
   refine pure_sym hE rfl (by repeat' (first | exact trivial | assumption | exact flat_no _ | exact (fun _ h => nomatch h) | apply And.intro)) (by repeat' (first | exact trivial | assumption | exact flat_no _ | exact (fun _ h => nomatch h) | apply And.intro)) fun S q pc hS hq hC hE => ?_
   conv => whnf
   refine sym_unroll hE hS ?_
   conv => whnf
   exact ⟨_,rfl,Wk.refl _⟩
  |cons y s =>
   show Pure prog _ [.nils,nl (y :: s)] _
   refine pure_sym hE rfl (by repeat' (first | exact trivial | assumption | exact flat_no _ | exact (fun _ h => nomatch h) | apply And.intro)) (by repeat' (first | exact trivial | assumption | exact flat_no _ | exact (fun _ h => nomatch h) | apply And.intro)) fun S q pc hS hq hC hE => ?_
   conv => whnf
   refine sym_unroll hE hS ?_
   conv => whnf
   rw [show decide ((0:Int) < ((y :: s).length:Nat)) = true from decide_eq_true (by simp only [List.length_cons];omega)]
   conv => whnf
   exact ⟨_,rfl,Wk.refl _⟩
 |cons x r =>
  cases b with
  |nil =>
   show Pure prog _ [nl (x :: r),.nils] _
   refine pure_sym hE rfl (by repeat' (first | exact trivial | assumption | exact flat_no _ | exact (fun _ h => nomatch h) | apply And.intro)) (by repeat' (first | exact trivial | assumption | exact flat_no _ | exact (fun _ h => nomatch h) | apply And.intro)) fun S q pc hS hq hC hE => ?_
   conv => whnf
   refine sym_unroll hE hS ?_
   conv => whnf
   rw [show decide ((0:Int) < ((x :: r).length:Nat)) = true from decide_eq_true (by simp only [List.length_cons];omega)]
   conv => whnf
   refine bool_true (inR_t (i :=0) (n :=(x :: r).length) (Nat.succ_pos _)) ?_
   conv => whnf
   exact ⟨_,rfl,Wk.refl _⟩
  |cons y s => exact lex_pure (x :: r) (y :: s) ha hb
theorem or_pure (x y:Int):Pure prog 83 [.lst [iv x,iv y] 2 .full] (iv (if x = 0 then y else x)) :=by
 refine pure_sym hE rfl (by repeat' (first | exact trivial | assumption | exact flat_no _ | exact (fun _ h => nomatch h) | apply And.intro)) (by repeat' (first | exact trivial | assumption | exact flat_no _ | exact (fun _ h => nomatch h) | apply And.intro)) fun S q pc hS hq hC hE => ?_
 conv => whnf
 refine sym_unroll hE hS ?_
 conv => whnf
 by_cases h:x = 0
 ·rw [show (x != 0) = false by rw [h];rfl]
  conv => whnf
  rw [show IntKind.i64.wrap (0 + 1) = 1 from wrapI (by decide) (by decide)]
  conv => whnf
  refine sym_unroll hE hS ?_
  conv => whnf
  rw [if_pos h]
  by_cases h2:y = 0
  ·rw [show (y != 0) = false by rw [h2];rfl]
   conv => whnf
   rw [show IntKind.i64.wrap (1 + 1) = 2 from wrapI (by decide) (by decide)]
   conv => whnf
   refine sym_unroll hE hS ?_
   conv => whnf
   rw [h2]
   exact ⟨_,rfl,Wk.refl _⟩
  ·rw [show (y != 0) = true from bne_iff_ne.2 h2]
   conv => whnf
   exact ⟨_,rfl,Wk.refl _⟩
 ·rw [show (x != 0) = true from bne_iff_ne.2 h]
  conv => whnf
  rw [if_neg h]
  exact ⟨_,rfl,Wk.refl _⟩
def seI (a b:List Int):Int :=if ordI a.length b.length = 0 then lexI a b else ordI a.length b.length
end
theorem less_pure (a b:List Int) (ha:a.length < 4611686018427387904) (hb:b.length < 4611686018427387904):Pure prog 82 [sv a,sv b] (.bool (decide (seI a b < 0))) :=by
 have la :=ivs_no a
 have lb :=ivs_no b
 have hx :=lex_sv a b ha hb
 cases a with
 |nil =>
  cases b with
  |nil =>
   have hx:Pure prog _ [.nils,.nils] _ :=hx
   show Pure prog _ [.nils,.nils] _
   refine pure_sym hE rfl (by repeat' (first | exact trivial | assumption | exact flat_no _ | exact (fun _ h => nomatch h) | apply And.intro)) (by repeat' (first | exact trivial | assumption | exact flat_no _ | exact (fun _ h => nomatch h) | apply And.intro)) fun S q pc hS hq hC hE => ?_
   conv => whnf
   refine sym_pure hC (cmp_pure 0 0) ?_
   conv => whnf
   refine sym_pure hC (hx) ?_
   conv => whnf
   refine sym_pureW hC (or_pure (ordI 0 0) (lexI [] [])) ?_
   conv => whnf
   exact ⟨_,rfl,Wk.refl _⟩
  |cons y s =>
   have hx:Pure prog _ [.nils,nl (y :: s)] _ :=hx
   show Pure prog _ [.nils,nl (y :: s)] _
   refine pure_sym hE rfl (by repeat' (first | exact trivial | assumption | exact flat_no _ | exact (fun _ h => nomatch h) | apply And.intro)) (by repeat' (first | exact trivial | assumption | exact flat_no _ | exact (fun _ h => nomatch h) | apply And.intro)) fun S q pc hS hq hC hE => ?_
   conv => whnf
   refine sym_pure hC (cmp_pure 0 (y :: s).length) ?_
   conv => whnf
   refine sym_pure hC (hx) ?_
   conv => whnf
   refine sym_pureW hC (or_pure (ordI 0 (y :: s).length) (lexI [] (y :: s))) ?_
   conv => whnf
   exact ⟨_,rfl,Wk.refl _⟩
 |cons x r =>
  cases b with
  |nil =>
   have hx:Pure prog _ [nl (x :: r),.nils] _ :=hx
   show Pure prog _ [nl (x :: r),.nils] _
   refine pure_sym hE rfl (by repeat' (first | exact trivial | assumption | exact flat_no _ | exact (fun _ h => nomatch h) | apply And.intro)) (by repeat' (first | exact trivial | assumption | exact flat_no _ | exact (fun _ h => nomatch h) | apply And.intro)) fun S q pc hS hq hC hE => ?_
   conv => whnf
   refine sym_pure hC (cmp_pure (x :: r).length 0) ?_
   conv => whnf
   refine sym_pure hC (hx) ?_
   conv => whnf
   refine sym_pureW hC (or_pure (ordI (x :: r).length 0) (lexI (x :: r) [])) ?_
   conv => whnf
   exact ⟨_,rfl,Wk.refl _⟩
  |cons y s =>
   have hx:Pure prog _ [nl (x :: r),nl (y :: s)] _ :=hx
   show Pure prog _ [nl (x :: r),nl (y :: s)] _
   refine pure_sym hE rfl (by repeat' (first | exact trivial | assumption | exact flat_no _ | exact (fun _ h => nomatch h) | apply And.intro)) (by repeat' (first | exact trivial | assumption | exact flat_no _ | exact (fun _ h => nomatch h) | apply And.intro)) fun S q pc hS hq hC hE => ?_
   conv => whnf
   refine sym_pure hC (cmp_pure (x :: r).length (y :: s).length) ?_
   conv => whnf
   refine sym_pure hC (hx) ?_
   conv => whnf
   refine sym_pureW hC (or_pure (ordI (x :: r).length (y :: s).length) (lexI (x :: r) (y :: s))) ?_
   conv => whnf
   exact ⟨_,rfl,Wk.refl _⟩
def svs:List (List Int) → List AV
 | [] => []
 |x :: r => sv x :: svs r
theorem svs_no:∀ l,Lives noL (svs l)
 | [] => trivial
 |x :: r => ⟨sv_no x,svs_no r⟩
theorem svs_len:∀ l,(svs l).length = l.length
 | [] => rfl
 | _ :: r => by simp only [svs,List.length_cons,svs_len r]
abbrev gs (l:List (List Int)) (i:Nat):List Int :=l.getD i []
theorem nth_svs:∀ (l:List (List Int)) (i:Nat),i < l.length → nth (svs l) i = some (sv (gs l i))
 |x :: r,0,_ => rfl
 |x :: r,i + 1,h => nth_svs r i (by simpa using h)
 | [],i,h => absurd h (Nat.not_lt_zero _)
def bstS:List (List Int) → List Int
 | [] => []
 |x :: r => r.foldl (fun o y => if seI y o < 0 then y else o) x
theorem bstS_snoc (l:List (List Int)) (y:List Int):bstS (l ++ [y]) = if l = [] ∨ seI y (bstS l) < 0 then y else bstS l :=by
 cases l with
 |nil => rw [if_pos (.inl rfl)];rfl
 |cons x r =>
  show (r ++ [y]).foldl _ x = _
  rw [List.foldl_append]
  show (if seI y (bstS (x :: r)) < 0 then y else bstS (x :: r)) = _
  by_cases h:seI y (bstS (x :: r)) < 0
  ·rw [if_pos h,if_pos (.inr h)]
  ·rw [if_neg h,if_neg (by rintro (k | k);cases k;exact h k)]
theorem bstS_len {n:Nat} (hn:0 < n):∀ (l:List (List Int)),(∀ x,x ∈ l → x.length < n) → (bstS l).length < n
 | [],_ => hn
 |x :: r,h => by
  have:∀ (r:List (List Int)) (o:List Int),o.length < n → (∀ x,x ∈ r → x.length < n) → (r.foldl (fun o y => if seI y o < 0 then y else o) o).length < n :=by
   intro r
   induction r with
   |nil => intro o ho _;exact ho
   |cons y r ih =>
    intro o ho hr
    refine ih _ ?_ fun x hx => hr x (List.mem_cons_of_mem _ hx)
    show (if seI y o < 0 then y else o).length < n
    split
    ·exact hr y List.mem_cons_self
    ·exact ho
  exact this r x (h x List.mem_cons_self) fun x hx => h x (List.mem_cons_of_mem _ hx)
end Go.Abs.Seat

namespace Go.Abs.Seat
open Go Go.Abs Go.Proofs.Tryz
set_option maxRecDepth 100000
set_option maxHeartbeats 4000000
attribute [local irreducible] IntKind.wrap pEq
def foS:List Nat → Nat × Nat
 | [] => (1,0)
 |x :: r => (x * (foS r).1 + (foS r).2,(foS r).1)
def zl (l:List Nat):List Int :=l.map Int.ofNat
theorem zl_len (l:List Nat):(zl l).length = l.length :=List.length_map _
theorem zl_gi (l:List Nat) {i:Nat} (h:i < l.length):gi (zl l) i = Int.ofNat (l.getD i 0) :=by
 simp [gi,zl,List.getD,h]
def chAt (l:List Int) (i:Nat):Prop :=(if i = 0 then 0 else 1) ≤ gi l i ∧ gi l i ≤ 50000
def chOk (l:List Int):Prop :=(∀ i,i < l.length → chAt l i) ∧ 1 ≤ l.length ∧ l.length ≤ 24

structure ChN (l:List Nat):Prop where
 hx:∀ i,i < l.length → l.getD i 0 ≤ 50000
 hp:∀ i,1 ≤ i → i < l.length → 1 ≤ l.getD i 0
 h1:1 ≤ l.length ∧ l.length ≤ 24
theorem ChN.of {l:List Nat} (hc:chOk (zl l)):ChN l :=by
 have hz :=zl_len l
 refine ⟨fun i hi => ?_,fun i h1 hi => ?_,by have :=hc.2;omega⟩
 ·have :=(hc.1 i (by omega)).2
  rw [zl_gi l hi] at this
  exact Int.ofNat_le.1 this
 ·have :=(hc.1 i (by omega)).1
  rw [zl_gi l hi,if_neg (by omega)] at this
  exact Int.ofNat_le.1 this
theorem lenIs_eq:∀ (l:List AV),lenIs l l.length = true
 | [] => rfl
 | _ :: r => lenIs_eq r
theorem wkl_ivs:∀ l:List Int,wkl (ivs l) = ivs l
 | [] => rfl
 |x :: r => by simp only [ivs,wkl,wk,wkl_ivs r]
theorem wk_tup {x y:AV} {r:List AV} (h:Wk x y):Wk (.tup (x :: r)) (.tup (y :: r)) :=by
 intro g w u hu
 obtain ⟨vs,e,h1⟩ :=hu
 obtain ⟨a,bs,e2,h2,h3⟩ :=h1
 exact ⟨vs,e,a,bs,e2,h g w a h2,h3⟩
def lastNe:List Nat → Prop
 | [] => True
 | [x] => x ≠ 1
 | _ :: y :: r => lastNe (y :: r)
theorem foS_pos2:∀ (r:List Nat),(∀ y,y ∈ r → 1 ≤ y) → 1 ≤ (foS r).1
 | [],_ => Nat.le_refl 1
 |x :: r,h => by
  have h1 :=foS_pos2 r fun y hy => h y (by simp [hy])
  have h2:1 ≤ x * (foS r).1 :=Nat.mul_pos (h x (by simp)) h1
  show 1 ≤ x * (foS r).1 + (foS r).2
  omega
theorem foS_lt:∀ (x:Nat) (r:List Nat),(∀ y,y ∈ x :: r → 1 ≤ y) → lastNe (x :: r) → (foS (x :: r)).2 < (foS (x :: r)).1
 |x,[],h,hl => by
  have h1 :=h x (by simp)
  have h2:x ≠ 1 :=hl
  show 1 < x * 1 + 0
  omega
 |x,y :: r,h,_ => by
  have h1 :=h x (by simp)
  have h2 :=foS_pos2 (y :: r) fun z hz => h z (by simp [hz])
  have h3:1 ≤ (foS (y :: r)).2 :=foS_pos2 r fun z hz => h z (by simp [hz])
  have h4:1 * (foS (y :: r)).1 ≤ x * (foS (y :: r)).1 :=Nat.mul_le_mul_right _ h1
  show (foS (y :: r)).1 < x * (foS (y :: r)).1 + (foS (y :: r)).2
  omega
theorem wk_own {xs:List AV} {n m:Nat} {own:Own} (e:n = m):Wk (.lst xs n own) (.lst xs m .no) :=by
 subst e
 intro g w u hu
 simp only [VRel] at hu ⊢
 obtain ⟨b,off,cap,h1,h2,h3,h4,_⟩ :=hu
 exact ⟨b,off,cap,h1,h2,h3,h4,trivial⟩
end Go.Abs.Seat
namespace Go.Abs.Seat
noncomputable section
open Go Go.Abs Go.Proofs.Tryz
set_option maxRecDepth 100000
set_option maxHeartbeats 40000000
attribute [local irreducible] IntKind.wrap pEq
def fidx:List Int → Int → Int → Int
 | [],_,_ => -1
 |y :: r,x,i => if x = y then i else fidx r x (i + 1)
theorem fidx_ge:∀ (l:List Int) (x i:Int),0 ≤ i → decide (fidx l x i ≥ 0) = decide (x ∈ l)
 | [],x,i,_ => by rw [decide_eq_false (show ¬ x ∈ [] from List.not_mem_nil)];rfl
 |y :: r,x,i,h => by
  rw [fidx]
  by_cases hx:x = y
  ·rw [if_pos hx,decide_eq_true h,decide_eq_true (by rw [hx];exact List.mem_cons_self)]
  ·rw [if_neg hx,fidx_ge r x (i + 1) (by omega)]
   exact decide_eq_decide.2 ⟨List.mem_cons_of_mem _,fun k => (List.mem_cons.1 k).resolve_left hx⟩
theorem index_pure (l:List Int) (x:Int) (hl:l.length < 4611686018427387904):Pure prog 127 [nl l,iv x] (iv (fidx l x 0)) :=by
 have ll :=ivs_no l
 refine pure_sym hE rfl (by repeat' (first | exact trivial | assumption | exact flat_no _ | exact (fun _ h => nomatch h) | apply And.intro)) (by repeat' (first | exact trivial | assumption | exact flat_no _ | exact (fun _ h => nomatch h) | apply And.intro)) fun S q pc hS hq hC hE => ?_
 conv => whnf
 refine sym_loop hE hS (A :=Nat) [0,1,7] (fun i => [(8,nv i)]) (fun _ => []) (fun i => i ≤ l.length ∧ fidx (l.drop i) x i = fidx l x 0) (fun i => l.length - i) 0 rfl rfl (by refine ⟨rfl,rfl,rfl,rfl,?_,?_⟩ <;> repeat' (first | exact trivial | exact rfl | exact Nat.zero_le _ | exact Nat.le_of_ble_eq_true rfl | exact bdl_no (by assumption) | exact bdl_no (flat_no _) | exact bdl_no (ivs_no _) | exact Nat.max_le.2 ⟨Nat.le_of_ble_eq_true rfl,bdl_no (ivs_no _)⟩ | apply And.intro)) ⟨Nat.zero_le _,rfl⟩ ?_
 intro i ⟨hi,he⟩
 conv => whnf
 by_cases h:i < l.length
 ·rw [show decide (Int.ofNat i < ↑l.length) = true from ltN_t h]
  conv => whnf
  refine bool_true (inR_t (i :=i) (n :=l.length) h) ?_
  conv => whnf
  refine plan_as (nthP (nth_ivs1 (l :=l) (i :=i) h)) ?_
  conv => whnf
  rw [drop_gi l h,fidx] at he
  by_cases h1:x = gi l i
  ·rw [show (x == gi l i) = true from beq_iff_eq.2 h1]
   conv => whnf
   rw [if_pos h1] at he
   rw [← he]
   exact ⟨_,rfl,Wk.refl _⟩
  ·rw [show (x == gi l i) = false from beq_eq_false_iff_ne.2 h1]
   conv => whnf
   rw [if_neg h1] at he
   rw [show IntKind.i64.wrap (Int.ofNat i + 1) = Int.ofNat (i + 1) from wrapN (m :=i + 1) (by omega)]
   exact ⟨i + 1,⟨h,he⟩,by omega,(by refine ⟨rfl,rfl,rfl,rfl,?_,?_⟩ <;> repeat' (first | exact trivial | exact rfl | exact Nat.zero_le _ | exact Nat.le_of_ble_eq_true rfl | exact bdl_no (by assumption) | exact bdl_no (flat_no _) | exact bdl_no (ivs_no _) | exact Nat.max_le.2 ⟨Nat.le_of_ble_eq_true rfl,bdl_no (ivs_no _)⟩ | apply And.intro))⟩
 ·rw [show decide (Int.ofNat i < ↑l.length) = false from ltN_f h]
  conv => whnf
  rw [List.drop_eq_nil_of_le (by omega),fidx] at he
  rw [← he]
  exact ⟨_,rfl,Wk.refl _⟩
theorem index_nils (x:Int):Pure prog 127 [.nils,iv x] (iv (-1)) :=by
 refine pure_sym hE rfl (by repeat' (first | exact trivial | assumption | exact flat_no _ | exact (fun _ h => nomatch h) | apply And.intro)) (by repeat' (first | exact trivial | assumption | exact flat_no _ | exact (fun _ h => nomatch h) | apply And.intro)) fun S q pc hS hq hC hE => ?_
 conv => whnf
 refine sym_unroll hE hS ?_
 conv => whnf
 exact ⟨_,rfl,Wk.refl _⟩
theorem contains_pure {v:AV} {l:List Int} (h:IL v l) (hl:l.length < 4611686018427387904) (x:Int):Pure prog 72 [v,iv x] (.bool (decide (x ∈ l))) :=by
 have lv :=h.no
 rcases h with ⟨rfl,rfl⟩ | rfl
 ·rw [decide_eq_false (show ¬ x ∈ [] from List.not_mem_nil)]
  refine pure_sym hE rfl (by repeat' (first | exact trivial | assumption | exact flat_no _ | exact (fun _ h => nomatch h) | apply And.intro)) (by repeat' (first | exact trivial | assumption | exact flat_no _ | exact (fun _ h => nomatch h) | apply And.intro)) fun S q pc hS hq hC hE => ?_
  conv => whnf
  refine sym_pure hC (index_nils x) ?_
  conv => whnf
  exact ⟨_,rfl,Wk.refl _⟩
 ·refine pure_sym hE rfl (by repeat' (first | exact trivial | assumption | exact flat_no _ | exact (fun _ h => nomatch h) | apply And.intro)) (by repeat' (first | exact trivial | assumption | exact flat_no _ | exact (fun _ h => nomatch h) | apply And.intro)) fun S q pc hS hq hC hE => ?_
  conv => whnf
  refine sym_pure hC (index_pure l x hl) ?_
  conv => whnf
  rw [fidx_ge l x 0 (Int.le_refl _)]
  exact ⟨_,rfl,Wk.refl _⟩
abbrev rv (a b p s:Int) (N:AV):AV :=.agg [iv a,iv b,iv p,iv s,N]
end
end Go.Abs.Seat
namespace Go.Abs.Seat
open Go Go.Abs Go.Proofs.Tryz
set_option maxRecDepth 100000
set_option maxHeartbeats 4000000
attribute [local irreducible] IntKind.wrap pEq
abbrev sl (l:List (List Int)):AV :=.lst (svs l) l.length .no
theorem nth_svs1 {l:List (List Int)} {i:Nat} (h:i < l.length):nth (svs l) (i * 1) = some (sv (gs l i)) :=by rw [Nat.mul_one];exact nth_svs l i h
theorem take_gs (l:List (List Int)) {i:Nat} (h:i < l.length):l.take (i + 1) = l.take i ++ [gs l i] :=by
 rw [List.take_succ_eq_append_getElem h]
 simp [gs,List.getD,h]
theorem take_ne {l:List (List Int)} {i:Nat} (h:i < l.length):¬ l.take (i + 1) = [] :=fun e => by
 have :=congrArg List.length e
 rw [List.length_take,List.length_nil] at this;omega
theorem gs_mem (l:List (List Int)) {i:Nat} (h:i < l.length):gs l i ∈ l :=by
 have e:gs l i = l[i] :=by simp [gs,List.getD,h]
 rw [e];exact List.getElem_mem h
theorem sv_cases (x:List Int):x = [] ∧ sv x = .nils ∨ sv x = nl x :=by
 cases x with
 |nil => exact .inl ⟨rfl,rfl⟩
 |cons _ _ => exact .inr rfl
theorem bestL_pure (l:List (List Int)) (hl:l.length < 4611686018427387904) (hx:∀ x,x ∈ l → x.length < 4611686018427387904) :
  Pure prog 81 [sl l,.func (.func 82) [] []] (.tup [sv (bstS l),.bool (decide ((l.length:Int) > 0))]) :=by
 have ls :=svs_no l
 have lo :=sv_no (bstS l)
 refine pure_sym hE rfl (by repeat' (first | exact trivial | assumption | exact flat_no _ | exact (fun _ h => nomatch h) | apply And.intro)) (by repeat' (first | exact trivial | assumption | exact flat_no _ | exact (fun _ h => nomatch h) | apply And.intro)) fun S q pc hS hq hC hE => ?_
 conv => whnf
 refine sym_loop hE hS (A :=Nat × AV) [0,1,9,10] (fun (i,v) => [(6,v),(11,nv i)]) (fun _ => []) (fun (i,v) => i ≤ l.length ∧ v = sv (bstS (l.take i))) (fun (i,_) => l.length - i) (0,.nils) rfl rfl (by refine ⟨rfl,rfl,rfl,rfl,?_,?_⟩ <;> repeat' (first | exact trivial | exact rfl | exact Nat.zero_le _ | exact Nat.le_of_ble_eq_true rfl | exact bdl_no (by assumption) | exact bdl_no (flat_no _) | exact bdl_no (ivs_no _) | exact Nat.max_le.2 ⟨Nat.le_of_ble_eq_true rfl,bdl_no (ivs_no _)⟩ | apply And.intro)) ⟨Nat.zero_le _,rfl⟩ ?_
 rintro ⟨i,v⟩ ⟨hi,rfl⟩
 rcases sv_cases (bstS (l.take i)) with ⟨_,eo⟩ | eo
 ·rw [eo]
  conv => whnf
  by_cases h:i < l.length
  ·have hn :=nth_svs1 h
   have hv :=congrArg sv (congrArg bstS (take_gs l h))
   rw [show decide (Int.ofNat i < ↑l.length) = true from ltN_t h]
   conv => whnf
   refine bool_true (inR_t (i :=i) (n :=l.length) h) ?_
   conv => whnf
   have lg :=ivs_no (gs l i)
   rcases sv_cases (gs l i) with ⟨_,eg⟩ | eg
   ·rw [eg] at hn
    refine plan_as (nthP hn) ?_
    conv => whnf
    cases i with
    |zero =>
     conv => whnf
     rw [show IntKind.i64.wrap (Int.ofNat 0 + 1) = 1 from wrapI (by decide) (by decide)]
     conv => whnf
     exact ⟨(1,_),⟨h,by rw [hv,bstS_snoc,if_pos (.inl rfl),eg]⟩,by show l.length - 1 < l.length - 0;omega,(by refine ⟨rfl,rfl,rfl,rfl,?_,?_⟩ <;> repeat' (first | exact trivial | exact rfl | exact Nat.zero_le _ | exact Nat.le_of_ble_eq_true rfl | exact bdl_no (by assumption) | exact bdl_no (flat_no _) | exact bdl_no (ivs_no _) | exact Nat.max_le.2 ⟨Nat.le_of_ble_eq_true rfl,bdl_no (ivs_no _)⟩ | apply And.intro))⟩
    |succ i =>
     conv => whnf
     rw [show (Int.ofNat (i + 1) == 0) = false from rfl]
     conv => whnf
     have hc :=less_pure (gs l (i + 1)) (bstS (l.take (i + 1))) (hx _ (gs_mem l h)) (bstS_len (by omega) _ fun x k => hx x (List.mem_of_mem_take k))
     rw [eg,eo] at hc
     refine sym_pure hC (hc) ?_
     conv => whnf
     rw [bstS_snoc] at hv
     have hi1:IntKind.i64.wrap (Int.ofNat (i + 1) + 1) = Int.ofNat (i + 2) :=wrapN (m :=i + 2) (by omega)
     by_cases h3:seI (gs l (i + 1)) (bstS (l.take (i + 1))) < 0
     ·rw [decide_eq_true h3]
      conv => whnf
      rw [hi1]
      exact ⟨(i + 2,_),⟨h,by rw [hv,if_pos (.inr h3),eg]⟩,by show l.length - (i + 2) < l.length - (i + 1);omega,(by refine ⟨rfl,rfl,rfl,rfl,?_,?_⟩ <;> repeat' (first | exact trivial | exact rfl | exact Nat.zero_le _ | exact Nat.le_of_ble_eq_true rfl | exact bdl_no (by assumption) | exact bdl_no (flat_no _) | exact bdl_no (ivs_no _) | exact Nat.max_le.2 ⟨Nat.le_of_ble_eq_true rfl,bdl_no (ivs_no _)⟩ | apply And.intro))⟩
     ·rw [decide_eq_false h3]
      conv => whnf
      rw [hi1]
      exact ⟨(i + 2,_),⟨h,by rw [hv,if_neg (by rintro (k | k);exact take_ne (by omega) k;exact h3 k),eo]⟩,by show l.length - (i + 2) < l.length - (i + 1);omega,(by refine ⟨rfl,rfl,rfl,rfl,?_,?_⟩ <;> repeat' (first | exact trivial | exact rfl | exact Nat.zero_le _ | exact Nat.le_of_ble_eq_true rfl | exact bdl_no (by assumption) | exact bdl_no (flat_no _) | exact bdl_no (ivs_no _) | exact Nat.max_le.2 ⟨Nat.le_of_ble_eq_true rfl,bdl_no (ivs_no _)⟩ | apply And.intro))⟩
   ·rw [eg] at hn
    refine plan_as (nthP hn) ?_
    conv => whnf
    cases i with
    |zero =>
     conv => whnf
     rw [show IntKind.i64.wrap (Int.ofNat 0 + 1) = 1 from wrapI (by decide) (by decide)]
     conv => whnf
     exact ⟨(1,_),⟨h,by rw [hv,bstS_snoc,if_pos (.inl rfl),eg]⟩,by show l.length - 1 < l.length - 0;omega,(by refine ⟨rfl,rfl,rfl,rfl,?_,?_⟩ <;> repeat' (first | exact trivial | exact rfl | exact Nat.zero_le _ | exact Nat.le_of_ble_eq_true rfl | exact bdl_no (by assumption) | exact bdl_no (flat_no _) | exact bdl_no (ivs_no _) | exact Nat.max_le.2 ⟨Nat.le_of_ble_eq_true rfl,bdl_no (ivs_no _)⟩ | apply And.intro))⟩
    |succ i =>
     conv => whnf
     rw [show (Int.ofNat (i + 1) == 0) = false from rfl]
     conv => whnf
     have hc :=less_pure (gs l (i + 1)) (bstS (l.take (i + 1))) (hx _ (gs_mem l h)) (bstS_len (by omega) _ fun x k => hx x (List.mem_of_mem_take k))
     rw [eg,eo] at hc
     refine sym_pure hC (hc) ?_
     conv => whnf
     rw [bstS_snoc] at hv
     have hi1:IntKind.i64.wrap (Int.ofNat (i + 1) + 1) = Int.ofNat (i + 2) :=wrapN (m :=i + 2) (by omega)
     by_cases h3:seI (gs l (i + 1)) (bstS (l.take (i + 1))) < 0
     ·rw [decide_eq_true h3]
      conv => whnf
      rw [hi1]
      exact ⟨(i + 2,_),⟨h,by rw [hv,if_pos (.inr h3),eg]⟩,by show l.length - (i + 2) < l.length - (i + 1);omega,(by refine ⟨rfl,rfl,rfl,rfl,?_,?_⟩ <;> repeat' (first | exact trivial | exact rfl | exact Nat.zero_le _ | exact Nat.le_of_ble_eq_true rfl | exact bdl_no (by assumption) | exact bdl_no (flat_no _) | exact bdl_no (ivs_no _) | exact Nat.max_le.2 ⟨Nat.le_of_ble_eq_true rfl,bdl_no (ivs_no _)⟩ | apply And.intro))⟩
     ·rw [decide_eq_false h3]
      conv => whnf
      rw [hi1]
      exact ⟨(i + 2,_),⟨h,by rw [hv,if_neg (by rintro (k | k);exact take_ne (by omega) k;exact h3 k),eo]⟩,by show l.length - (i + 2) < l.length - (i + 1);omega,(by refine ⟨rfl,rfl,rfl,rfl,?_,?_⟩ <;> repeat' (first | exact trivial | exact rfl | exact Nat.zero_le _ | exact Nat.le_of_ble_eq_true rfl | exact bdl_no (by assumption) | exact bdl_no (flat_no _) | exact bdl_no (ivs_no _) | exact Nat.max_le.2 ⟨Nat.le_of_ble_eq_true rfl,bdl_no (ivs_no _)⟩ | apply And.intro))⟩
  ·rw [show decide (Int.ofNat i < ↑l.length) = false from ltN_f h]
   conv => whnf
   have et:l.take i = l :=List.take_of_length_le (by omega)
   try rw [et]
   rw [et] at eo
   rw [eo]
   exact ⟨_,rfl,Wk.refl _⟩
 ·have lq :=ivs_no (bstS (l.take i))
  rw [eo]
  conv => whnf
  by_cases h:i < l.length
  ·have hn :=nth_svs1 h
   have hv :=congrArg sv (congrArg bstS (take_gs l h))
   rw [show decide (Int.ofNat i < ↑l.length) = true from ltN_t h]
   conv => whnf
   refine bool_true (inR_t (i :=i) (n :=l.length) h) ?_
   conv => whnf
   have lg :=ivs_no (gs l i)
   rcases sv_cases (gs l i) with ⟨_,eg⟩ | eg
   ·rw [eg] at hn
    refine plan_as (nthP hn) ?_
    conv => whnf
    cases i with
    |zero =>
     conv => whnf
     rw [show IntKind.i64.wrap (Int.ofNat 0 + 1) = 1 from wrapI (by decide) (by decide)]
     conv => whnf
     exact ⟨(1,_),⟨h,by rw [hv,bstS_snoc,if_pos (.inl rfl),eg]⟩,by show l.length - 1 < l.length - 0;omega,(by refine ⟨rfl,rfl,rfl,rfl,?_,?_⟩ <;> repeat' (first | exact trivial | exact rfl | exact Nat.zero_le _ | exact Nat.le_of_ble_eq_true rfl | exact bdl_no (by assumption) | exact bdl_no (flat_no _) | exact bdl_no (ivs_no _) | exact Nat.max_le.2 ⟨Nat.le_of_ble_eq_true rfl,bdl_no (ivs_no _)⟩ | apply And.intro))⟩
    |succ i =>
     conv => whnf
     rw [show (Int.ofNat (i + 1) == 0) = false from rfl]
     conv => whnf
     have hc :=less_pure (gs l (i + 1)) (bstS (l.take (i + 1))) (hx _ (gs_mem l h)) (bstS_len (by omega) _ fun x k => hx x (List.mem_of_mem_take k))
     rw [eg,eo] at hc
     refine sym_pure hC (hc) ?_
     conv => whnf
     rw [bstS_snoc] at hv
     have hi1:IntKind.i64.wrap (Int.ofNat (i + 1) + 1) = Int.ofNat (i + 2) :=wrapN (m :=i + 2) (by omega)
     by_cases h3:seI (gs l (i + 1)) (bstS (l.take (i + 1))) < 0
     ·rw [decide_eq_true h3]
      conv => whnf
      rw [hi1]
      exact ⟨(i + 2,_),⟨h,by rw [hv,if_pos (.inr h3),eg]⟩,by show l.length - (i + 2) < l.length - (i + 1);omega,(by refine ⟨rfl,rfl,rfl,rfl,?_,?_⟩ <;> repeat' (first | exact trivial | exact rfl | exact Nat.zero_le _ | exact Nat.le_of_ble_eq_true rfl | exact bdl_no (by assumption) | exact bdl_no (flat_no _) | exact bdl_no (ivs_no _) | exact Nat.max_le.2 ⟨Nat.le_of_ble_eq_true rfl,bdl_no (ivs_no _)⟩ | apply And.intro))⟩
     ·rw [decide_eq_false h3]
      conv => whnf
      rw [hi1]
      exact ⟨(i + 2,_),⟨h,by rw [hv,if_neg (by rintro (k | k);exact take_ne (by omega) k;exact h3 k),eo]⟩,by show l.length - (i + 2) < l.length - (i + 1);omega,(by refine ⟨rfl,rfl,rfl,rfl,?_,?_⟩ <;> repeat' (first | exact trivial | exact rfl | exact Nat.zero_le _ | exact Nat.le_of_ble_eq_true rfl | exact bdl_no (by assumption) | exact bdl_no (flat_no _) | exact bdl_no (ivs_no _) | exact Nat.max_le.2 ⟨Nat.le_of_ble_eq_true rfl,bdl_no (ivs_no _)⟩ | apply And.intro))⟩
   ·rw [eg] at hn
    refine plan_as (nthP hn) ?_
    conv => whnf
    cases i with
    |zero =>
     conv => whnf
     rw [show IntKind.i64.wrap (Int.ofNat 0 + 1) = 1 from wrapI (by decide) (by decide)]
     conv => whnf
     exact ⟨(1,_),⟨h,by rw [hv,bstS_snoc,if_pos (.inl rfl),eg]⟩,by show l.length - 1 < l.length - 0;omega,(by refine ⟨rfl,rfl,rfl,rfl,?_,?_⟩ <;> repeat' (first | exact trivial | exact rfl | exact Nat.zero_le _ | exact Nat.le_of_ble_eq_true rfl | exact bdl_no (by assumption) | exact bdl_no (flat_no _) | exact bdl_no (ivs_no _) | exact Nat.max_le.2 ⟨Nat.le_of_ble_eq_true rfl,bdl_no (ivs_no _)⟩ | apply And.intro))⟩
    |succ i =>
     conv => whnf
     rw [show (Int.ofNat (i + 1) == 0) = false from rfl]
     conv => whnf
     have hc :=less_pure (gs l (i + 1)) (bstS (l.take (i + 1))) (hx _ (gs_mem l h)) (bstS_len (by omega) _ fun x k => hx x (List.mem_of_mem_take k))
     rw [eg,eo] at hc
     refine sym_pure hC (hc) ?_
     conv => whnf
     rw [bstS_snoc] at hv
     have hi1:IntKind.i64.wrap (Int.ofNat (i + 1) + 1) = Int.ofNat (i + 2) :=wrapN (m :=i + 2) (by omega)
     by_cases h3:seI (gs l (i + 1)) (bstS (l.take (i + 1))) < 0
     ·rw [decide_eq_true h3]
      conv => whnf
      rw [hi1]
      exact ⟨(i + 2,_),⟨h,by rw [hv,if_pos (.inr h3),eg]⟩,by show l.length - (i + 2) < l.length - (i + 1);omega,(by refine ⟨rfl,rfl,rfl,rfl,?_,?_⟩ <;> repeat' (first | exact trivial | exact rfl | exact Nat.zero_le _ | exact Nat.le_of_ble_eq_true rfl | exact bdl_no (by assumption) | exact bdl_no (flat_no _) | exact bdl_no (ivs_no _) | exact Nat.max_le.2 ⟨Nat.le_of_ble_eq_true rfl,bdl_no (ivs_no _)⟩ | apply And.intro))⟩
     ·rw [decide_eq_false h3]
      conv => whnf
      rw [hi1]
      exact ⟨(i + 2,_),⟨h,by rw [hv,if_neg (by rintro (k | k);exact take_ne (by omega) k;exact h3 k),eo]⟩,by show l.length - (i + 2) < l.length - (i + 1);omega,(by refine ⟨rfl,rfl,rfl,rfl,?_,?_⟩ <;> repeat' (first | exact trivial | exact rfl | exact Nat.zero_le _ | exact Nat.le_of_ble_eq_true rfl | exact bdl_no (by assumption) | exact bdl_no (flat_no _) | exact bdl_no (ivs_no _) | exact Nat.max_le.2 ⟨Nat.le_of_ble_eq_true rfl,bdl_no (ivs_no _)⟩ | apply And.intro))⟩
  ·rw [show decide (Int.ofNat i < ↑l.length) = false from ltN_f h]
   conv => whnf
   have et:l.take i = l :=List.take_of_length_le (by omega)
   try rw [et]
   rw [et] at eo
   rw [eo]
   exact ⟨_,rfl,Wk.refl _⟩
end Go.Abs.Seat
