/-
  Which lists of pairs are trains.
-/
import Derived.Test.YtcnidgafdonioaaGreatVU6
namespace Go.Abs.Seat
open Go Go.Abs Go.Proofs.Tryz
set_option maxRecDepth 100000
set_option maxHeartbeats 4000000
attribute [local irreducible] IntKind.wrap pEq
def bix:List (Int × Int) → Int → Int
 | [],_ => -1
 |p :: r,i => if tth p.1 ∧ tth p.2 then bix r (i + 1) else i
def gd:List (Int × Int) → Prop
 | [] => True
 |p :: r => (tth p.1 ∧ tth p.2) ∧ gd r
instance gdDec:(l:List (Int × Int)) → Decidable (gd l)
 | [] => .isTrue trivial
 |p :: r => have :=gdDec r;inferInstanceAs (Decidable ((tth p.1 ∧ tth p.2) ∧ gd r))
theorem bix_t {a b:Int} {r:List (Int × Int)} {i:Int} (h:tth a ∧ tth b):bix ((a,b) :: r) i = bix r (i + 1) :=if_pos h
theorem bix_f {a b:Int} {r:List (Int × Int)} {i:Int} (h:¬ (tth a ∧ tth b)):bix ((a,b) :: r) i = i :=if_neg h
theorem bix_ge:∀ (l:List (Int × Int)) (i:Int),0 ≤ i → decide (bix l i ≥ 0) = !(decide (gd l))
 | [],i,_ => rfl
 |p :: r,i,hi => by
  unfold bix
  by_cases h:tth p.1 ∧ tth p.2
  ·rw [if_pos h,bix_ge r (i + 1) (by omega)]
   have:gd (p :: r) ↔ gd r :=⟨fun k => k.2,fun k => ⟨h,k⟩⟩
   simp only [this]
  ·rw [if_neg h]
   have:¬ gd (p :: r) :=fun k => h k.1
   rw [decide_eq_false this]
   exact decide_eq_true hi
theorem idx1 (a0 b0:Int):Pure prog 171 [.lst [iv a0,iv b0] 1 .no,.func (.func 130) [] []] (iv (bix [(a0,b0)] 0)) :=by
 refine pure_sym hE rfl ⟨⟨⟨trivial,trivial,trivial⟩,fun _ h => nomatch h⟩,⟨trivial,trivial⟩,trivial⟩ trivial fun S q pc hS hq hC hE => ?_
 conv => whnf
 refine sym_unroll hE hS ?_
 conv => whnf
 refine sym_pure hC (bad_pure a0 b0) ?_
 by_cases h0:tth a0 ∧ tth b0
 ·rw [decide_eq_true h0]
  conv => whnf
  rw [show IntKind.i64.wrap (0 + 1) = 1 from wrapI (by decide) (by decide)]
  refine sym_unroll hE hS ?_
  conv => whnf
  exact ⟨_,rfl,by rw [show bix [(a0,b0)] 0 = -1 by rw [bix_t h0];rfl];exact Wk.refl _⟩
 ·rw [decide_eq_false h0]
  conv => whnf
  exact ⟨_,rfl,by rw [show bix [(a0,b0)] 0 = 0 by rw [bix_f h0]];exact Wk.refl _⟩
theorem has1 (a0 b0:Int):Pure prog 129 [.lst [iv a0,iv b0] 1 .no,.func (.func 130) [] []] (.bool (!(decide (gd [(a0,b0)])))) :=by
 refine pure_sym hE rfl ⟨⟨⟨trivial,trivial,trivial⟩,fun _ h => nomatch h⟩,⟨trivial,trivial⟩,trivial⟩ trivial fun S q pc hS hq hC hE => ?_
 conv => whnf
 refine sym_pure hC (idx1 a0 b0) ?_
 conv => whnf
 exact ⟨_,rfl,wkb (bix_ge _ 0 (Int.le_refl 0))⟩
theorem isTrain1 (a0 b0:Int):Pure prog 73 [.lst [iv a0,iv b0] 1 .no] (.bool (decide (gd [(a0,b0)]))) :=by
 refine pure_sym hE rfl ⟨⟨⟨trivial,trivial,trivial⟩,fun _ h => nomatch h⟩,trivial⟩ trivial fun S q pc hS hq hC hE => ?_
 conv => whnf
 refine sym_pure hC (in_pure 1 1 3) ?_
 conv => whnf
 refine sym_pure hC (has1 a0 b0) ?_
 conv => whnf
 exact ⟨_,rfl,wkb (Bool.not_not _)⟩
theorem idx2 (a0 b0 a1 b1:Int):Pure prog 171 [.lst [iv a0,iv b0,iv a1,iv b1] 2 .no,.func (.func 130) [] []] (iv (bix [(a0,b0),(a1,b1)] 0)) :=by
 refine pure_sym hE rfl ⟨⟨⟨trivial,trivial,trivial,trivial,trivial⟩,fun _ h => nomatch h⟩,⟨trivial,trivial⟩,trivial⟩ trivial fun S q pc hS hq hC hE => ?_
 conv => whnf
 refine sym_unroll hE hS ?_
 conv => whnf
 refine sym_pure hC (bad_pure a0 b0) ?_
 by_cases h0:tth a0 ∧ tth b0
 ·rw [decide_eq_true h0]
  conv => whnf
  rw [show IntKind.i64.wrap (0 + 1) = 1 from wrapI (by decide) (by decide)]
  refine sym_unroll hE hS ?_
  conv => whnf
  refine sym_pure hC (bad_pure a1 b1) ?_
  by_cases h1:tth a1 ∧ tth b1
  ·rw [decide_eq_true h1]
   conv => whnf
   rw [show IntKind.i64.wrap (1 + 1) = 2 from wrapI (by decide) (by decide)]
   refine sym_unroll hE hS ?_
   conv => whnf
   exact ⟨_,rfl,by rw [show bix [(a0,b0),(a1,b1)] 0 = -1 by rw [bix_t h0,bix_t h1];rfl];exact Wk.refl _⟩
  ·rw [decide_eq_false h1]
   conv => whnf
   exact ⟨_,rfl,by rw [show bix [(a0,b0),(a1,b1)] 0 = 1 by rw [bix_t h0,bix_f h1];rfl];exact Wk.refl _⟩
 ·rw [decide_eq_false h0]
  conv => whnf
  exact ⟨_,rfl,by rw [show bix [(a0,b0),(a1,b1)] 0 = 0 by rw [bix_f h0]];exact Wk.refl _⟩
theorem has2 (a0 b0 a1 b1:Int):Pure prog 129 [.lst [iv a0,iv b0,iv a1,iv b1] 2 .no,.func (.func 130) [] []] (.bool (!(decide (gd [(a0,b0),(a1,b1)])))) :=by
 refine pure_sym hE rfl ⟨⟨⟨trivial,trivial,trivial,trivial,trivial⟩,fun _ h => nomatch h⟩,⟨trivial,trivial⟩,trivial⟩ trivial fun S q pc hS hq hC hE => ?_
 conv => whnf
 refine sym_pure hC (idx2 a0 b0 a1 b1) ?_
 conv => whnf
 exact ⟨_,rfl,wkb (bix_ge _ 0 (Int.le_refl 0))⟩
theorem isTrain2 (a0 b0 a1 b1:Int):Pure prog 73 [.lst [iv a0,iv b0,iv a1,iv b1] 2 .no] (.bool (decide (gd [(a0,b0),(a1,b1)]))) :=by
 refine pure_sym hE rfl ⟨⟨⟨trivial,trivial,trivial,trivial,trivial⟩,fun _ h => nomatch h⟩,trivial⟩ trivial fun S q pc hS hq hC hE => ?_
 conv => whnf
 refine sym_pure hC (in_pure 2 1 3) ?_
 conv => whnf
 refine sym_pure hC (has2 a0 b0 a1 b1) ?_
 conv => whnf
 exact ⟨_,rfl,wkb (Bool.not_not _)⟩
theorem idx3 (a0 b0 a1 b1 a2 b2:Int):Pure prog 171 [.lst [iv a0,iv b0,iv a1,iv b1,iv a2,iv b2] 3 .no,.func (.func 130) [] []] (iv (bix [(a0,b0),(a1,b1),(a2,b2)] 0)) :=by
 refine pure_sym hE rfl ⟨⟨⟨trivial,trivial,trivial,trivial,trivial,trivial,trivial⟩,fun _ h => nomatch h⟩,⟨trivial,trivial⟩,trivial⟩ trivial fun S q pc hS hq hC hE => ?_
 conv => whnf
 refine sym_unroll hE hS ?_
 conv => whnf
 refine sym_pure hC (bad_pure a0 b0) ?_
 by_cases h0:tth a0 ∧ tth b0
 ·rw [decide_eq_true h0]
  conv => whnf
  rw [show IntKind.i64.wrap (0 + 1) = 1 from wrapI (by decide) (by decide)]
  refine sym_unroll hE hS ?_
  conv => whnf
  refine sym_pure hC (bad_pure a1 b1) ?_
  by_cases h1:tth a1 ∧ tth b1
  ·rw [decide_eq_true h1]
   conv => whnf
   rw [show IntKind.i64.wrap (1 + 1) = 2 from wrapI (by decide) (by decide)]
   refine sym_unroll hE hS ?_
   conv => whnf
   refine sym_pure hC (bad_pure a2 b2) ?_
   by_cases h2:tth a2 ∧ tth b2
   ·rw [decide_eq_true h2]
    conv => whnf
    rw [show IntKind.i64.wrap (2 + 1) = 3 from wrapI (by decide) (by decide)]
    refine sym_unroll hE hS ?_
    conv => whnf
    exact ⟨_,rfl,by rw [show bix [(a0,b0),(a1,b1),(a2,b2)] 0 = -1 by rw [bix_t h0,bix_t h1,bix_t h2];rfl];exact Wk.refl _⟩
   ·rw [decide_eq_false h2]
    conv => whnf
    exact ⟨_,rfl,by rw [show bix [(a0,b0),(a1,b1),(a2,b2)] 0 = 2 by rw [bix_t h0,bix_t h1,bix_f h2];rfl];exact Wk.refl _⟩
  ·rw [decide_eq_false h1]
   conv => whnf
   exact ⟨_,rfl,by rw [show bix [(a0,b0),(a1,b1),(a2,b2)] 0 = 1 by rw [bix_t h0,bix_f h1];rfl];exact Wk.refl _⟩
 ·rw [decide_eq_false h0]
  conv => whnf
  exact ⟨_,rfl,by rw [show bix [(a0,b0),(a1,b1),(a2,b2)] 0 = 0 by rw [bix_f h0]];exact Wk.refl _⟩
theorem has3 (a0 b0 a1 b1 a2 b2:Int):Pure prog 129 [.lst [iv a0,iv b0,iv a1,iv b1,iv a2,iv b2] 3 .no,.func (.func 130) [] []] (.bool (!(decide (gd [(a0,b0),(a1,b1),(a2,b2)])))) :=by
 refine pure_sym hE rfl ⟨⟨⟨trivial,trivial,trivial,trivial,trivial,trivial,trivial⟩,fun _ h => nomatch h⟩,⟨trivial,trivial⟩,trivial⟩ trivial fun S q pc hS hq hC hE => ?_
 conv => whnf
 refine sym_pure hC (idx3 a0 b0 a1 b1 a2 b2) ?_
 conv => whnf
 exact ⟨_,rfl,wkb (bix_ge _ 0 (Int.le_refl 0))⟩
theorem isTrain3 (a0 b0 a1 b1 a2 b2:Int):Pure prog 73 [.lst [iv a0,iv b0,iv a1,iv b1,iv a2,iv b2] 3 .no] (.bool (decide (gd [(a0,b0),(a1,b1),(a2,b2)]))) :=by
 refine pure_sym hE rfl ⟨⟨⟨trivial,trivial,trivial,trivial,trivial,trivial,trivial⟩,fun _ h => nomatch h⟩,trivial⟩ trivial fun S q pc hS hq hC hE => ?_
 conv => whnf
 refine sym_pure hC (in_pure 3 1 3) ?_
 conv => whnf
 refine sym_pure hC (has3 a0 b0 a1 b1 a2 b2) ?_
 conv => whnf
 exact ⟨_,rfl,wkb (Bool.not_not _)⟩
theorem rTrain1 (a0 b0:Int):Pure prog 10 [.lst [iv a0,iv b0] 1 .no] (.bool (decide (gd [(a0,b0)]))) :=by
 refine pure_sym hE rfl ⟨⟨⟨trivial,trivial,trivial⟩,fun _ h => nomatch h⟩,trivial⟩ trivial fun S q pc hS hq hC hE => ?_
 conv => whnf
 refine sym_unroll hE hS ?_
 conv => whnf
 refine sym_pure hC (rTeeth_pure a0) ?_
 by_cases s0:tth a0
 ·rw [decide_eq_true s0]
  conv => whnf
  refine sym_pure hC (rTeeth_pure b0) ?_
  by_cases t0:tth b0
  ·rw [decide_eq_true t0]
   conv => whnf
   rw [show IntKind.i64.wrap (0 + 1) = 1 from wrapI (by decide) (by decide)]
   refine sym_unroll hE hS ?_
   conv => whnf
   refine sym_pure hC (rin_pure 1 1 3) ?_
   conv => whnf
   exact ⟨_,rfl,wkb (by rw [show decide (gd [(a0,b0)]) = true from decide_eq_true ⟨⟨s0,t0⟩,trivial⟩];rfl)⟩
  ·rw [decide_eq_false t0]
   conv => whnf
   exact ⟨_,rfl,wkb (decide_eq_false fun g:gd [(a0,b0)] => t0 g.1.2).symm⟩
 ·rw [decide_eq_false s0]
  conv => whnf
  exact ⟨_,rfl,wkb (decide_eq_false fun g:gd [(a0,b0)] => s0 g.1.1).symm⟩
theorem rTrain2 (a0 b0 a1 b1:Int):Pure prog 10 [.lst [iv a0,iv b0,iv a1,iv b1] 2 .no] (.bool (decide (gd [(a0,b0),(a1,b1)]))) :=by
 refine pure_sym hE rfl ⟨⟨⟨trivial,trivial,trivial,trivial,trivial⟩,fun _ h => nomatch h⟩,trivial⟩ trivial fun S q pc hS hq hC hE => ?_
 conv => whnf
 refine sym_unroll hE hS ?_
 conv => whnf
 refine sym_pure hC (rTeeth_pure a0) ?_
 by_cases s0:tth a0
 ·rw [decide_eq_true s0]
  conv => whnf
  refine sym_pure hC (rTeeth_pure b0) ?_
  by_cases t0:tth b0
  ·rw [decide_eq_true t0]
   conv => whnf
   rw [show IntKind.i64.wrap (0 + 1) = 1 from wrapI (by decide) (by decide)]
   refine sym_unroll hE hS ?_
   conv => whnf
   refine sym_pure hC (rTeeth_pure a1) ?_
   by_cases s1:tth a1
   ·rw [decide_eq_true s1]
    conv => whnf
    refine sym_pure hC (rTeeth_pure b1) ?_
    by_cases t1:tth b1
    ·rw [decide_eq_true t1]
     conv => whnf
     rw [show IntKind.i64.wrap (1 + 1) = 2 from wrapI (by decide) (by decide)]
     refine sym_unroll hE hS ?_
     conv => whnf
     refine sym_pure hC (rin_pure 2 1 3) ?_
     conv => whnf
     exact ⟨_,rfl,wkb (by rw [show decide (gd [(a0,b0),(a1,b1)]) = true from decide_eq_true ⟨⟨s0,t0⟩,⟨⟨s1,t1⟩,trivial⟩⟩];rfl)⟩
    ·rw [decide_eq_false t1]
     conv => whnf
     exact ⟨_,rfl,wkb (decide_eq_false fun g:gd [(a0,b0),(a1,b1)] => t1 g.2.1.2).symm⟩
   ·rw [decide_eq_false s1]
    conv => whnf
    exact ⟨_,rfl,wkb (decide_eq_false fun g:gd [(a0,b0),(a1,b1)] => s1 g.2.1.1).symm⟩
  ·rw [decide_eq_false t0]
   conv => whnf
   exact ⟨_,rfl,wkb (decide_eq_false fun g:gd [(a0,b0),(a1,b1)] => t0 g.1.2).symm⟩
 ·rw [decide_eq_false s0]
  conv => whnf
  exact ⟨_,rfl,wkb (decide_eq_false fun g:gd [(a0,b0),(a1,b1)] => s0 g.1.1).symm⟩
theorem rTrain3 (a0 b0 a1 b1 a2 b2:Int):Pure prog 10 [.lst [iv a0,iv b0,iv a1,iv b1,iv a2,iv b2] 3 .no] (.bool (decide (gd [(a0,b0),(a1,b1),(a2,b2)]))) :=by
 refine pure_sym hE rfl ⟨⟨⟨trivial,trivial,trivial,trivial,trivial,trivial,trivial⟩,fun _ h => nomatch h⟩,trivial⟩ trivial fun S q pc hS hq hC hE => ?_
 conv => whnf
 refine sym_unroll hE hS ?_
 conv => whnf
 refine sym_pure hC (rTeeth_pure a0) ?_
 by_cases s0:tth a0
 ·rw [decide_eq_true s0]
  conv => whnf
  refine sym_pure hC (rTeeth_pure b0) ?_
  by_cases t0:tth b0
  ·rw [decide_eq_true t0]
   conv => whnf
   rw [show IntKind.i64.wrap (0 + 1) = 1 from wrapI (by decide) (by decide)]
   refine sym_unroll hE hS ?_
   conv => whnf
   refine sym_pure hC (rTeeth_pure a1) ?_
   by_cases s1:tth a1
   ·rw [decide_eq_true s1]
    conv => whnf
    refine sym_pure hC (rTeeth_pure b1) ?_
    by_cases t1:tth b1
    ·rw [decide_eq_true t1]
     conv => whnf
     rw [show IntKind.i64.wrap (1 + 1) = 2 from wrapI (by decide) (by decide)]
     refine sym_unroll hE hS ?_
     conv => whnf
     refine sym_pure hC (rTeeth_pure a2) ?_
     by_cases s2:tth a2
     ·rw [decide_eq_true s2]
      conv => whnf
      refine sym_pure hC (rTeeth_pure b2) ?_
      by_cases t2:tth b2
      ·rw [decide_eq_true t2]
       conv => whnf
       rw [show IntKind.i64.wrap (2 + 1) = 3 from wrapI (by decide) (by decide)]
       refine sym_unroll hE hS ?_
       conv => whnf
       refine sym_pure hC (rin_pure 3 1 3) ?_
       conv => whnf
       exact ⟨_,rfl,wkb (by rw [show decide (gd [(a0,b0),(a1,b1),(a2,b2)]) = true from decide_eq_true ⟨⟨s0,t0⟩,⟨⟨s1,t1⟩,⟨⟨s2,t2⟩,trivial⟩⟩⟩];rfl)⟩
      ·rw [decide_eq_false t2]
       conv => whnf
       exact ⟨_,rfl,wkb (decide_eq_false fun g:gd [(a0,b0),(a1,b1),(a2,b2)] => t2 g.2.2.1.2).symm⟩
     ·rw [decide_eq_false s2]
      conv => whnf
      exact ⟨_,rfl,wkb (decide_eq_false fun g:gd [(a0,b0),(a1,b1),(a2,b2)] => s2 g.2.2.1.1).symm⟩
    ·rw [decide_eq_false t1]
     conv => whnf
     exact ⟨_,rfl,wkb (decide_eq_false fun g:gd [(a0,b0),(a1,b1),(a2,b2)] => t1 g.2.1.2).symm⟩
   ·rw [decide_eq_false s1]
    conv => whnf
    exact ⟨_,rfl,wkb (decide_eq_false fun g:gd [(a0,b0),(a1,b1),(a2,b2)] => s1 g.2.1.1).symm⟩
  ·rw [decide_eq_false t0]
   conv => whnf
   exact ⟨_,rfl,wkb (decide_eq_false fun g:gd [(a0,b0),(a1,b1),(a2,b2)] => t0 g.1.2).symm⟩
 ·rw [decide_eq_false s0]
  conv => whnf
  exact ⟨_,rfl,wkb (decide_eq_false fun g:gd [(a0,b0),(a1,b1),(a2,b2)] => s0 g.1.1).symm⟩
end Go.Abs.Seat
