/-
  Which lists of pairs are trains.
-/
import Derived.Test.YtnimgfkggbnjoaaGreatDoorXU6
namespace Go.Abs.Seat
open Go Go.Abs Go.Proofs.Tryz
set_option maxRecDepth 100000
set_option maxHeartbeats 4000000
attribute [local irreducible] IntKind.wrap pEq
def bix:List (Int × Int) → Int → Int
 | [],_ => -1
 |p :: r,i => if tth p.1 ∧ tth p.2 then bix r (i + 1) else i
def gd:List (Int × Int) → Prop
 | [] => True
 |p :: r => (tth p.1 ∧ tth p.2) ∧ gd r
instance gdDec:(l:List (Int × Int)) → Decidable (gd l)
 | [] => .isTrue trivial
 |p :: r => have :=gdDec r;inferInstanceAs (Decidable ((tth p.1 ∧ tth p.2) ∧ gd r))
theorem qi4 {a b:Int} {r:List (Int × Int)} {i:Int} (h:tth a ∧ tth b):bix ((a,b) :: r) i = bix r (i + 1) :=if_pos h
theorem qqc {a b:Int} {r:List (Int × Int)} {i:Int} (h:¬ (tth a ∧ tth b)):bix ((a,b) :: r) i = i :=if_neg h
theorem qo7:∀ (l:List (Int × Int)) (i:Int),0 ≤ i → decide (bix l i ≥ 0) = !(decide (gd l))
 | [],i,_ => rfl
 |p :: r,i,hi => by
  unfold bix
  by_cases h:tth p.1 ∧ tth p.2
  ·rw [if_pos h,qo7 r (i + 1) (by omega)]
   have:gd (p :: r) ↔ gd r :=⟨fun k => k.2,fun k => ⟨h,k⟩⟩
   simp only [this]
  ·rw [if_neg h]
   have:¬ gd (p :: r) :=fun k => h k.1
   rw [decide_eq_false this]
   exact decide_eq_true hi
theorem idx1 (a0 b0:Int):Pure prog 123 [.lst [iv a0,iv b0] 1 .no,.func (.func 105) [] []] (iv (bix [(a0,b0)] 0)) :=by
 refine qbg hE rfl ⟨⟨⟨trivial,trivial,trivial⟩,fun _ h => nomatch h⟩,⟨trivial,trivial⟩,trivial⟩ trivial fun S q pc hS hq hC hE => ?_
 conv => whnf
 refine qa6 hE hS ?_
 conv => whnf
 refine qav hC (qgc a0 b0) ?_
 by_cases h0:tth a0 ∧ tth b0
 ·rw [decide_eq_true h0]
  conv => whnf
  rw [show IntKind.i64.wrap (0 + 1) = 1 from qfs (by decide) (by decide)]
  refine qa6 hE hS ?_
  conv => whnf
  exact ⟨_,rfl,by rw [show bix [(a0,b0)] 0 = -1 by rw [qi4 h0];rfl];exact Wk.refl _⟩
 ·rw [decide_eq_false h0]
  conv => whnf
  exact ⟨_,rfl,by rw [show bix [(a0,b0)] 0 = 0 by rw [qqc h0]];exact Wk.refl _⟩
theorem has1 (a0 b0:Int):Pure prog 104 [.lst [iv a0,iv b0] 1 .no,.func (.func 105) [] []] (.bool (!(decide (gd [(a0,b0)])))) :=by
 refine qbg hE rfl ⟨⟨⟨trivial,trivial,trivial⟩,fun _ h => nomatch h⟩,⟨trivial,trivial⟩,trivial⟩ trivial fun S q pc hS hq hC hE => ?_
 conv => whnf
 refine qav hC (idx1 a0 b0) ?_
 conv => whnf
 exact ⟨_,rfl,wkb (qo7 _ 0 (Int.le_refl 0))⟩
theorem quw (a0 b0:Int):Pure prog 51 [.lst [iv a0,iv b0] 1 .no] (.bool (decide (gd [(a0,b0)]))) :=by
 refine qbg hE rfl ⟨⟨⟨trivial,trivial,trivial⟩,fun _ h => nomatch h⟩,trivial⟩ trivial fun S q pc hS hq hC hE => ?_
 conv => whnf
 refine qav hC (qep 1 1 3) ?_
 conv => whnf
 refine qav hC (has1 a0 b0) ?_
 conv => whnf
 exact ⟨_,rfl,wkb (Bool.not_not _)⟩
theorem idx2 (a0 b0 a1 b1:Int):Pure prog 123 [.lst [iv a0,iv b0,iv a1,iv b1] 2 .no,.func (.func 105) [] []] (iv (bix [(a0,b0),(a1,b1)] 0)) :=by
 refine qbg hE rfl ⟨⟨⟨trivial,trivial,trivial,trivial,trivial⟩,fun _ h => nomatch h⟩,⟨trivial,trivial⟩,trivial⟩ trivial fun S q pc hS hq hC hE => ?_
 conv => whnf
 refine qa6 hE hS ?_
 conv => whnf
 refine qav hC (qgc a0 b0) ?_
 by_cases h0:tth a0 ∧ tth b0
 ·rw [decide_eq_true h0]
  conv => whnf
  rw [show IntKind.i64.wrap (0 + 1) = 1 from qfs (by decide) (by decide)]
  refine qa6 hE hS ?_
  conv => whnf
  refine qav hC (qgc a1 b1) ?_
  by_cases h1:tth a1 ∧ tth b1
  ·rw [decide_eq_true h1]
   conv => whnf
   rw [show IntKind.i64.wrap (1 + 1) = 2 from qfs (by decide) (by decide)]
   refine qa6 hE hS ?_
   conv => whnf
   exact ⟨_,rfl,by rw [show bix [(a0,b0),(a1,b1)] 0 = -1 by rw [qi4 h0,qi4 h1];rfl];exact Wk.refl _⟩
  ·rw [decide_eq_false h1]
   conv => whnf
   exact ⟨_,rfl,by rw [show bix [(a0,b0),(a1,b1)] 0 = 1 by rw [qi4 h0,qqc h1];rfl];exact Wk.refl _⟩
 ·rw [decide_eq_false h0]
  conv => whnf
  exact ⟨_,rfl,by rw [show bix [(a0,b0),(a1,b1)] 0 = 0 by rw [qqc h0]];exact Wk.refl _⟩
theorem has2 (a0 b0 a1 b1:Int):Pure prog 104 [.lst [iv a0,iv b0,iv a1,iv b1] 2 .no,.func (.func 105) [] []] (.bool (!(decide (gd [(a0,b0),(a1,b1)])))) :=by
 refine qbg hE rfl ⟨⟨⟨trivial,trivial,trivial,trivial,trivial⟩,fun _ h => nomatch h⟩,⟨trivial,trivial⟩,trivial⟩ trivial fun S q pc hS hq hC hE => ?_
 conv => whnf
 refine qav hC (idx2 a0 b0 a1 b1) ?_
 conv => whnf
 exact ⟨_,rfl,wkb (qo7 _ 0 (Int.le_refl 0))⟩
theorem quv (a0 b0 a1 b1:Int):Pure prog 51 [.lst [iv a0,iv b0,iv a1,iv b1] 2 .no] (.bool (decide (gd [(a0,b0),(a1,b1)]))) :=by
 refine qbg hE rfl ⟨⟨⟨trivial,trivial,trivial,trivial,trivial⟩,fun _ h => nomatch h⟩,trivial⟩ trivial fun S q pc hS hq hC hE => ?_
 conv => whnf
 refine qav hC (qep 2 1 3) ?_
 conv => whnf
 refine qav hC (has2 a0 b0 a1 b1) ?_
 conv => whnf
 exact ⟨_,rfl,wkb (Bool.not_not _)⟩
theorem idx3 (a0 b0 a1 b1 a2 b2:Int):Pure prog 123 [.lst [iv a0,iv b0,iv a1,iv b1,iv a2,iv b2] 3 .no,.func (.func 105) [] []] (iv (bix [(a0,b0),(a1,b1),(a2,b2)] 0)) :=by
 refine qbg hE rfl ⟨⟨⟨trivial,trivial,trivial,trivial,trivial,trivial,trivial⟩,fun _ h => nomatch h⟩,⟨trivial,trivial⟩,trivial⟩ trivial fun S q pc hS hq hC hE => ?_
 conv => whnf
 refine qa6 hE hS ?_
 conv => whnf
 refine qav hC (qgc a0 b0) ?_
 by_cases h0:tth a0 ∧ tth b0
 ·rw [decide_eq_true h0]
  conv => whnf
  rw [show IntKind.i64.wrap (0 + 1) = 1 from qfs (by decide) (by decide)]
  refine qa6 hE hS ?_
  conv => whnf
  refine qav hC (qgc a1 b1) ?_
  by_cases h1:tth a1 ∧ tth b1
  ·rw [decide_eq_true h1]
   conv => whnf
   rw [show IntKind.i64.wrap (1 + 1) = 2 from qfs (by decide) (by decide)]
   refine qa6 hE hS ?_
   conv => whnf
   refine qav hC (qgc a2 b2) ?_
   by_cases h2:tth a2 ∧ tth b2
   ·rw [decide_eq_true h2]
    conv => whnf
    rw [show IntKind.i64.wrap (2 + 1) = 3 from qfs (by decide) (by decide)]
    refine qa6 hE hS ?_
    conv => whnf
    exact ⟨_,rfl,by rw [show bix [(a0,b0),(a1,b1),(a2,b2)] 0 = -1 by rw [qi4 h0,qi4 h1,qi4 h2];rfl];exact Wk.refl _⟩
   ·rw [decide_eq_false h2]
    conv => whnf
    exact ⟨_,rfl,by rw [show bix [(a0,b0),(a1,b1),(a2,b2)] 0 = 2 by rw [qi4 h0,qi4 h1,qqc h2];rfl];exact Wk.refl _⟩
  ·rw [decide_eq_false h1]
   conv => whnf
   exact ⟨_,rfl,by rw [show bix [(a0,b0),(a1,b1),(a2,b2)] 0 = 1 by rw [qi4 h0,qqc h1];rfl];exact Wk.refl _⟩
 ·rw [decide_eq_false h0]
  conv => whnf
  exact ⟨_,rfl,by rw [show bix [(a0,b0),(a1,b1),(a2,b2)] 0 = 0 by rw [qqc h0]];exact Wk.refl _⟩
theorem has3 (a0 b0 a1 b1 a2 b2:Int):Pure prog 104 [.lst [iv a0,iv b0,iv a1,iv b1,iv a2,iv b2] 3 .no,.func (.func 105) [] []] (.bool (!(decide (gd [(a0,b0),(a1,b1),(a2,b2)])))) :=by
 refine qbg hE rfl ⟨⟨⟨trivial,trivial,trivial,trivial,trivial,trivial,trivial⟩,fun _ h => nomatch h⟩,⟨trivial,trivial⟩,trivial⟩ trivial fun S q pc hS hq hC hE => ?_
 conv => whnf
 refine qav hC (idx3 a0 b0 a1 b1 a2 b2) ?_
 conv => whnf
 exact ⟨_,rfl,wkb (qo7 _ 0 (Int.le_refl 0))⟩
theorem quu (a0 b0 a1 b1 a2 b2:Int):Pure prog 51 [.lst [iv a0,iv b0,iv a1,iv b1,iv a2,iv b2] 3 .no] (.bool (decide (gd [(a0,b0),(a1,b1),(a2,b2)]))) :=by
 refine qbg hE rfl ⟨⟨⟨trivial,trivial,trivial,trivial,trivial,trivial,trivial⟩,fun _ h => nomatch h⟩,trivial⟩ trivial fun S q pc hS hq hC hE => ?_
 conv => whnf
 refine qav hC (qep 3 1 3) ?_
 conv => whnf
 refine qav hC (has3 a0 b0 a1 b1 a2 b2) ?_
 conv => whnf
 exact ⟨_,rfl,wkb (Bool.not_not _)⟩
end Go.Abs.Seat
