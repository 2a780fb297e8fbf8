/-
  Which lists of pairs are trains.
-/
import Derived.Test.YtpjclnoehlflcaaGreatDoorU6
namespace Go.Abs.Seat
open Go Go.Abs Go.Proofs.Tryz
set_option maxRecDepth 100000
set_option maxHeartbeats 4000000
attribute [local irreducible] IntKind.wrap pEq
def bix:List (Int × Int) → Int → Int
 | [],_ => -1
 |p :: r,i => if tth p.1 ∧ tth p.2 then bix r (i + 1) else i
def gd:List (Int × Int) → Prop
 | [] => True
 |p :: r => (tth p.1 ∧ tth p.2) ∧ gd r
instance gdDec:(l:List (Int × Int)) → Decidable (gd l)
 | [] => .isTrue trivial
 |p :: r => have :=gdDec r;inferInstanceAs (Decidable ((tth p.1 ∧ tth p.2) ∧ gd r))
theorem qjg {a b:Int} {r:List (Int × Int)} {i:Int} (h:tth a ∧ tth b):bix ((a,b) :: r) i = bix r (i + 1) :=if_pos h
theorem qr1 {a b:Int} {r:List (Int × Int)} {i:Int} (h:¬ (tth a ∧ tth b)):bix ((a,b) :: r) i = i :=if_neg h
theorem qqu:∀ (l:List (Int × Int)) (i:Int),0 ≤ i → decide (bix l i ≥ 0) = !(decide (gd l))
 | [],i,_ => rfl
 |p :: r,i,hi => by
  unfold bix
  by_cases h:tth p.1 ∧ tth p.2
  ·rw [if_pos h,qqu r (i + 1) (by omega)]
   have:gd (p :: r) ↔ gd r :=⟨fun k => k.2,fun k => ⟨h,k⟩⟩
   simp only [this]
  ·rw [if_neg h]
   have:¬ gd (p :: r) :=fun k => h k.1
   rw [zF this]
   exact zT hi
theorem idx1 (a0 b0:Int):Pure prog 131 [.lst [iv a0,iv b0] 1 .no,.func (.func 122) [] []] (iv (bix [(a0,b0)] 0)) :=by
 refine pure_sym hE rfl ⟨⟨⟨trivial,trivial,trivial⟩,fun _ h => nomatch h⟩,⟨trivial,trivial⟩,trivial⟩ trivial fun S q pc hS hq hC hE => ?_
 conv=>whnf
 refine qae hE hS ?_
 conv=>whnf
 refine qab hC (qfn a0 b0) ?_
 by_cases h0:tth a0 ∧ tth b0
 ·rw [zT h0]
  conv=>whnf
  rw [show IntKind.i64.wrap (0 + 1) = 1 from qas (by decide) (by decide)]
  refine qae hE hS ?_
  conv=>whnf
  exact ⟨_,rfl,by rw [show bix [(a0,b0)] 0 = -1 by rw [qjg h0];rfl];exact Wk.refl _⟩
 ·rw [zF h0]
  conv=>whnf
  exact ⟨_,rfl,by rw [show bix [(a0,b0)] 0 = 0 by rw [qr1 h0]];exact Wk.refl _⟩
theorem has1 (a0 b0:Int):Pure prog 87 [.lst [iv a0,iv b0] 1 .no,.func (.func 122) [] []] (.bool (!(decide (gd [(a0,b0)])))) :=by
 refine pure_sym hE rfl ⟨⟨⟨trivial,trivial,trivial⟩,fun _ h => nomatch h⟩,⟨trivial,trivial⟩,trivial⟩ trivial fun S q pc hS hq hC hE => ?_
 conv=>whnf
 refine qab hC (idx1 a0 b0) ?_
 conv=>whnf
 exact ⟨_,rfl,wkb (qqu _ 0 (Int.le_refl 0))⟩
theorem qlm (a0 b0:Int):Pure prog 63 [.lst [iv a0,iv b0] 1 .no] (.bool (decide (gd [(a0,b0)]))) :=by
 refine pure_sym hE rfl ⟨⟨⟨trivial,trivial,trivial⟩,fun _ h => nomatch h⟩,trivial⟩ trivial fun S q pc hS hq hC hE => ?_
 conv=>whnf
 refine qab hC (qcv 1 1 3) ?_
 conv=>whnf
 refine qab hC (has1 a0 b0) ?_
 conv=>whnf
 exact ⟨_,rfl,wkb (Bool.not_not _)⟩
theorem idx2 (a0 b0 a1 b1:Int):Pure prog 131 [.lst [iv a0,iv b0,iv a1,iv b1] 2 .no,.func (.func 122) [] []] (iv (bix [(a0,b0),(a1,b1)] 0)) :=by
 refine pure_sym hE rfl ⟨⟨⟨trivial,trivial,trivial,trivial,trivial⟩,fun _ h => nomatch h⟩,⟨trivial,trivial⟩,trivial⟩ trivial fun S q pc hS hq hC hE => ?_
 conv=>whnf
 refine qae hE hS ?_
 conv=>whnf
 refine qab hC (qfn a0 b0) ?_
 by_cases h0:tth a0 ∧ tth b0
 ·rw [zT h0]
  conv=>whnf
  rw [show IntKind.i64.wrap (0 + 1) = 1 from qas (by decide) (by decide)]
  refine qae hE hS ?_
  conv=>whnf
  refine qab hC (qfn a1 b1) ?_
  by_cases h1:tth a1 ∧ tth b1
  ·rw [zT h1]
   conv=>whnf
   rw [show IntKind.i64.wrap (1 + 1) = 2 from qas (by decide) (by decide)]
   refine qae hE hS ?_
   conv=>whnf
   exact ⟨_,rfl,by rw [show bix [(a0,b0),(a1,b1)] 0 = -1 by rw [qjg h0,qjg h1];rfl];exact Wk.refl _⟩
  ·rw [zF h1]
   conv=>whnf
   exact ⟨_,rfl,by rw [show bix [(a0,b0),(a1,b1)] 0 = 1 by rw [qjg h0,qr1 h1];rfl];exact Wk.refl _⟩
 ·rw [zF h0]
  conv=>whnf
  exact ⟨_,rfl,by rw [show bix [(a0,b0),(a1,b1)] 0 = 0 by rw [qr1 h0]];exact Wk.refl _⟩
theorem has2 (a0 b0 a1 b1:Int):Pure prog 87 [.lst [iv a0,iv b0,iv a1,iv b1] 2 .no,.func (.func 122) [] []] (.bool (!(decide (gd [(a0,b0),(a1,b1)])))) :=by
 refine pure_sym hE rfl ⟨⟨⟨trivial,trivial,trivial,trivial,trivial⟩,fun _ h => nomatch h⟩,⟨trivial,trivial⟩,trivial⟩ trivial fun S q pc hS hq hC hE => ?_
 conv=>whnf
 refine qab hC (idx2 a0 b0 a1 b1) ?_
 conv=>whnf
 exact ⟨_,rfl,wkb (qqu _ 0 (Int.le_refl 0))⟩
theorem qll (a0 b0 a1 b1:Int):Pure prog 63 [.lst [iv a0,iv b0,iv a1,iv b1] 2 .no] (.bool (decide (gd [(a0,b0),(a1,b1)]))) :=by
 refine pure_sym hE rfl ⟨⟨⟨trivial,trivial,trivial,trivial,trivial⟩,fun _ h => nomatch h⟩,trivial⟩ trivial fun S q pc hS hq hC hE => ?_
 conv=>whnf
 refine qab hC (qcv 2 1 3) ?_
 conv=>whnf
 refine qab hC (has2 a0 b0 a1 b1) ?_
 conv=>whnf
 exact ⟨_,rfl,wkb (Bool.not_not _)⟩
theorem idx3 (a0 b0 a1 b1 a2 b2:Int):Pure prog 131 [.lst [iv a0,iv b0,iv a1,iv b1,iv a2,iv b2] 3 .no,.func (.func 122) [] []] (iv (bix [(a0,b0),(a1,b1),(a2,b2)] 0)) :=by
 refine pure_sym hE rfl ⟨⟨⟨trivial,trivial,trivial,trivial,trivial,trivial,trivial⟩,fun _ h => nomatch h⟩,⟨trivial,trivial⟩,trivial⟩ trivial fun S q pc hS hq hC hE => ?_
 conv=>whnf
 refine qae hE hS ?_
 conv=>whnf
 refine qab hC (qfn a0 b0) ?_
 by_cases h0:tth a0 ∧ tth b0
 ·rw [zT h0]
  conv=>whnf
  rw [show IntKind.i64.wrap (0 + 1) = 1 from qas (by decide) (by decide)]
  refine qae hE hS ?_
  conv=>whnf
  refine qab hC (qfn a1 b1) ?_
  by_cases h1:tth a1 ∧ tth b1
  ·rw [zT h1]
   conv=>whnf
   rw [show IntKind.i64.wrap (1 + 1) = 2 from qas (by decide) (by decide)]
   refine qae hE hS ?_
   conv=>whnf
   refine qab hC (qfn a2 b2) ?_
   by_cases h2:tth a2 ∧ tth b2
   ·rw [zT h2]
    conv=>whnf
    rw [show IntKind.i64.wrap (2 + 1) = 3 from qas (by decide) (by decide)]
    refine qae hE hS ?_
    conv=>whnf
    exact ⟨_,rfl,by rw [show bix [(a0,b0),(a1,b1),(a2,b2)] 0 = -1 by rw [qjg h0,qjg h1,qjg h2];rfl];exact Wk.refl _⟩
   ·rw [zF h2]
    conv=>whnf
    exact ⟨_,rfl,by rw [show bix [(a0,b0),(a1,b1),(a2,b2)] 0 = 2 by rw [qjg h0,qjg h1,qr1 h2];rfl];exact Wk.refl _⟩
  ·rw [zF h1]
   conv=>whnf
   exact ⟨_,rfl,by rw [show bix [(a0,b0),(a1,b1),(a2,b2)] 0 = 1 by rw [qjg h0,qr1 h1];rfl];exact Wk.refl _⟩
 ·rw [zF h0]
  conv=>whnf
  exact ⟨_,rfl,by rw [show bix [(a0,b0),(a1,b1),(a2,b2)] 0 = 0 by rw [qr1 h0]];exact Wk.refl _⟩
theorem has3 (a0 b0 a1 b1 a2 b2:Int):Pure prog 87 [.lst [iv a0,iv b0,iv a1,iv b1,iv a2,iv b2] 3 .no,.func (.func 122) [] []] (.bool (!(decide (gd [(a0,b0),(a1,b1),(a2,b2)])))) :=by
 refine pure_sym hE rfl ⟨⟨⟨trivial,trivial,trivial,trivial,trivial,trivial,trivial⟩,fun _ h => nomatch h⟩,⟨trivial,trivial⟩,trivial⟩ trivial fun S q pc hS hq hC hE => ?_
 conv=>whnf
 refine qab hC (idx3 a0 b0 a1 b1 a2 b2) ?_
 conv=>whnf
 exact ⟨_,rfl,wkb (qqu _ 0 (Int.le_refl 0))⟩
theorem qlk (a0 b0 a1 b1 a2 b2:Int):Pure prog 63 [.lst [iv a0,iv b0,iv a1,iv b1,iv a2,iv b2] 3 .no] (.bool (decide (gd [(a0,b0),(a1,b1),(a2,b2)]))) :=by
 refine pure_sym hE rfl ⟨⟨⟨trivial,trivial,trivial,trivial,trivial,trivial,trivial⟩,fun _ h => nomatch h⟩,trivial⟩ trivial fun S q pc hS hq hC hE => ?_
 conv=>whnf
 refine qab hC (qcv 3 1 3) ?_
 conv=>whnf
 refine qab hC (has3 a0 b0 a1 b1 a2 b2) ?_
 conv=>whnf
 exact ⟨_,rfl,wkb (Bool.not_not _)⟩
theorem qy5:Pure prog 18 [.lst [] 0 .no] (.bool false) :=by
 refine pure_sym hE rfl ⟨⟨trivial,fun _ h => nomatch h⟩,trivial⟩ trivial fun S q pc hS hq hC hE => ?_
 conv=>whnf
 refine qae hE hS ?_
 conv=>whnf
 refine qab hC (qbg 0 1 3) ?_
 conv=>whnf
 exact ⟨_,rfl,Wk.refl _⟩
theorem qn2 (a0 b0:Int):Pure prog 18 [.lst [iv a0,iv b0] 1 .no] (.bool (decide (gd [(a0,b0)]))) :=by
 refine pure_sym hE rfl ⟨⟨⟨trivial,trivial,trivial⟩,fun _ h => nomatch h⟩,trivial⟩ trivial fun S q pc hS hq hC hE => ?_
 conv=>whnf
 refine qae hE hS ?_
 conv=>whnf
 refine qab hC (qai a0) ?_
 by_cases s0:tth a0
 ·rw [zT s0]
  conv=>whnf
  refine qab hC (qai b0) ?_
  by_cases t0:tth b0
  ·rw [zT t0]
   conv=>whnf
   rw [show IntKind.i64.wrap (0 + 1) = 1 from qas (by decide) (by decide)]
   refine qae hE hS ?_
   conv=>whnf
   refine qab hC (qbg 1 1 3) ?_
   conv=>whnf
   exact ⟨_,rfl,wkb (by rw [show decide (gd [(a0,b0)]) = true from zT ⟨⟨s0,t0⟩,trivial⟩];rfl)⟩
  ·rw [zF t0]
   conv=>whnf
   exact ⟨_,rfl,wkb (zF fun g:gd [(a0,b0)] => t0 g.1.2).symm⟩
 ·rw [zF s0]
  conv=>whnf
  exact ⟨_,rfl,wkb (zF fun g:gd [(a0,b0)] => s0 g.1.1).symm⟩
theorem qn1 (a0 b0 a1 b1:Int):Pure prog 18 [.lst [iv a0,iv b0,iv a1,iv b1] 2 .no] (.bool (decide (gd [(a0,b0),(a1,b1)]))) :=by
 refine pure_sym hE rfl ⟨⟨⟨trivial,trivial,trivial,trivial,trivial⟩,fun _ h => nomatch h⟩,trivial⟩ trivial fun S q pc hS hq hC hE => ?_
 conv=>whnf
 refine qae hE hS ?_
 conv=>whnf
 refine qab hC (qai a0) ?_
 by_cases s0:tth a0
 ·rw [zT s0]
  conv=>whnf
  refine qab hC (qai b0) ?_
  by_cases t0:tth b0
  ·rw [zT t0]
   conv=>whnf
   rw [show IntKind.i64.wrap (0 + 1) = 1 from qas (by decide) (by decide)]
   refine qae hE hS ?_
   conv=>whnf
   refine qab hC (qai a1) ?_
   by_cases s1:tth a1
   ·rw [zT s1]
    conv=>whnf
    refine qab hC (qai b1) ?_
    by_cases t1:tth b1
    ·rw [zT t1]
     conv=>whnf
     rw [show IntKind.i64.wrap (1 + 1) = 2 from qas (by decide) (by decide)]
     refine qae hE hS ?_
     conv=>whnf
     refine qab hC (qbg 2 1 3) ?_
     conv=>whnf
     exact ⟨_,rfl,wkb (by rw [show decide (gd [(a0,b0),(a1,b1)]) = true from zT ⟨⟨s0,t0⟩,⟨⟨s1,t1⟩,trivial⟩⟩];rfl)⟩
    ·rw [zF t1]
     conv=>whnf
     exact ⟨_,rfl,wkb (zF fun g:gd [(a0,b0),(a1,b1)] => t1 g.2.1.2).symm⟩
   ·rw [zF s1]
    conv=>whnf
    exact ⟨_,rfl,wkb (zF fun g:gd [(a0,b0),(a1,b1)] => s1 g.2.1.1).symm⟩
  ·rw [zF t0]
   conv=>whnf
   exact ⟨_,rfl,wkb (zF fun g:gd [(a0,b0),(a1,b1)] => t0 g.1.2).symm⟩
 ·rw [zF s0]
  conv=>whnf
  exact ⟨_,rfl,wkb (zF fun g:gd [(a0,b0),(a1,b1)] => s0 g.1.1).symm⟩
theorem qn0 (a0 b0 a1 b1 a2 b2:Int):Pure prog 18 [.lst [iv a0,iv b0,iv a1,iv b1,iv a2,iv b2] 3 .no] (.bool (decide (gd [(a0,b0),(a1,b1),(a2,b2)]))) :=by
 refine pure_sym hE rfl ⟨⟨⟨trivial,trivial,trivial,trivial,trivial,trivial,trivial⟩,fun _ h => nomatch h⟩,trivial⟩ trivial fun S q pc hS hq hC hE => ?_
 conv=>whnf
 refine qae hE hS ?_
 conv=>whnf
 refine qab hC (qai a0) ?_
 by_cases s0:tth a0
 ·rw [zT s0]
  conv=>whnf
  refine qab hC (qai b0) ?_
  by_cases t0:tth b0
  ·rw [zT t0]
   conv=>whnf
   rw [show IntKind.i64.wrap (0 + 1) = 1 from qas (by decide) (by decide)]
   refine qae hE hS ?_
   conv=>whnf
   refine qab hC (qai a1) ?_
   by_cases s1:tth a1
   ·rw [zT s1]
    conv=>whnf
    refine qab hC (qai b1) ?_
    by_cases t1:tth b1
    ·rw [zT t1]
     conv=>whnf
     rw [show IntKind.i64.wrap (1 + 1) = 2 from qas (by decide) (by decide)]
     refine qae hE hS ?_
     conv=>whnf
     refine qab hC (qai a2) ?_
     by_cases s2:tth a2
     ·rw [zT s2]
      conv=>whnf
      refine qab hC (qai b2) ?_
      by_cases t2:tth b2
      ·rw [zT t2]
       conv=>whnf
       rw [show IntKind.i64.wrap (2 + 1) = 3 from qas (by decide) (by decide)]
       refine qae hE hS ?_
       conv=>whnf
       refine qab hC (qbg 3 1 3) ?_
       conv=>whnf
       exact ⟨_,rfl,wkb (by rw [show decide (gd [(a0,b0),(a1,b1),(a2,b2)]) = true from zT ⟨⟨s0,t0⟩,⟨⟨s1,t1⟩,⟨⟨s2,t2⟩,trivial⟩⟩⟩];rfl)⟩
      ·rw [zF t2]
       conv=>whnf
       exact ⟨_,rfl,wkb (zF fun g:gd [(a0,b0),(a1,b1),(a2,b2)] => t2 g.2.2.1.2).symm⟩
     ·rw [zF s2]
      conv=>whnf
      exact ⟨_,rfl,wkb (zF fun g:gd [(a0,b0),(a1,b1),(a2,b2)] => s2 g.2.2.1.1).symm⟩
    ·rw [zF t1]
     conv=>whnf
     exact ⟨_,rfl,wkb (zF fun g:gd [(a0,b0),(a1,b1),(a2,b2)] => t1 g.2.1.2).symm⟩
   ·rw [zF s1]
    conv=>whnf
    exact ⟨_,rfl,wkb (zF fun g:gd [(a0,b0),(a1,b1),(a2,b2)] => s1 g.2.1.1).symm⟩
  ·rw [zF t0]
   conv=>whnf
   exact ⟨_,rfl,wkb (zF fun g:gd [(a0,b0),(a1,b1),(a2,b2)] => t0 g.1.2).symm⟩
 ·rw [zF s0]
  conv=>whnf
  exact ⟨_,rfl,wkb (zF fun g:gd [(a0,b0),(a1,b1),(a2,b2)] => s0 g.1.1).symm⟩
theorem qy4 (a0 b0 a1 b1 a2 b2 a3 b3:Int):Pure prog 18 [.lst [iv a0,iv b0,iv a1,iv b1,iv a2,iv b2,iv a3,iv b3] 4 .no] (.bool false) :=by
 refine pure_sym hE rfl ⟨⟨⟨trivial,trivial,trivial,trivial,trivial,trivial,trivial,trivial,trivial⟩,fun _ h => nomatch h⟩,trivial⟩ trivial fun S q pc hS hq hC hE => ?_
 conv=>whnf
 refine qae hE hS ?_
 conv=>whnf
 refine qab hC (qai a0) ?_
 by_cases s0:tth a0
 ·rw [zT s0]
  conv=>whnf
  refine qab hC (qai b0) ?_
  by_cases t0:tth b0
  ·rw [zT t0]
   conv=>whnf
   rw [show IntKind.i64.wrap (0 + 1) = 1 from qas (by decide) (by decide)]
   refine qae hE hS ?_
   conv=>whnf
   refine qab hC (qai a1) ?_
   by_cases s1:tth a1
   ·rw [zT s1]
    conv=>whnf
    refine qab hC (qai b1) ?_
    by_cases t1:tth b1
    ·rw [zT t1]
     conv=>whnf
     rw [show IntKind.i64.wrap (1 + 1) = 2 from qas (by decide) (by decide)]
     refine qae hE hS ?_
     conv=>whnf
     refine qab hC (qai a2) ?_
     by_cases s2:tth a2
     ·rw [zT s2]
      conv=>whnf
      refine qab hC (qai b2) ?_
      by_cases t2:tth b2
      ·rw [zT t2]
       conv=>whnf
       rw [show IntKind.i64.wrap (2 + 1) = 3 from qas (by decide) (by decide)]
       refine qae hE hS ?_
       conv=>whnf
       refine qab hC (qai a3) ?_
       by_cases s3:tth a3
       ·rw [zT s3]
        conv=>whnf
        refine qab hC (qai b3) ?_
        by_cases t3:tth b3
        ·rw [zT t3]
         conv=>whnf
         rw [show IntKind.i64.wrap (3 + 1) = 4 from qas (by decide) (by decide)]
         refine qae hE hS ?_
         conv=>whnf
         refine qab hC (qbg 4 1 3) ?_
         conv=>whnf
         exact ⟨_,rfl,Wk.refl _⟩
        ·rw [zF t3]
         conv=>whnf
         exact ⟨_,rfl,Wk.refl _⟩
       ·rw [zF s3]
        conv=>whnf
        exact ⟨_,rfl,Wk.refl _⟩
      ·rw [zF t2]
       conv=>whnf
       exact ⟨_,rfl,Wk.refl _⟩
     ·rw [zF s2]
      conv=>whnf
      exact ⟨_,rfl,Wk.refl _⟩
    ·rw [zF t1]
     conv=>whnf
     exact ⟨_,rfl,Wk.refl _⟩
   ·rw [zF s1]
    conv=>whnf
    exact ⟨_,rfl,Wk.refl _⟩
  ·rw [zF t0]
   conv=>whnf
   exact ⟨_,rfl,Wk.refl _⟩
 ·rw [zF s0]
  conv=>whnf
  exact ⟨_,rfl,Wk.refl _⟩
theorem qy3 (a0 b0 a1 b1 a2 b2 a3 b3 a4 b4:Int):Pure prog 18 [.lst [iv a0,iv b0,iv a1,iv b1,iv a2,iv b2,iv a3,iv b3,iv a4,iv b4] 5 .no] (.bool false) :=by
 refine pure_sym hE rfl ⟨⟨⟨trivial,trivial,trivial,trivial,trivial,trivial,trivial,trivial,trivial,trivial,trivial⟩,fun _ h => nomatch h⟩,trivial⟩ trivial fun S q pc hS hq hC hE => ?_
 conv=>whnf
 refine qae hE hS ?_
 conv=>whnf
 refine qab hC (qai a0) ?_
 by_cases s0:tth a0
 ·rw [zT s0]
  conv=>whnf
  refine qab hC (qai b0) ?_
  by_cases t0:tth b0
  ·rw [zT t0]
   conv=>whnf
   rw [show IntKind.i64.wrap (0 + 1) = 1 from qas (by decide) (by decide)]
   refine qae hE hS ?_
   conv=>whnf
   refine qab hC (qai a1) ?_
   by_cases s1:tth a1
   ·rw [zT s1]
    conv=>whnf
    refine qab hC (qai b1) ?_
    by_cases t1:tth b1
    ·rw [zT t1]
     conv=>whnf
     rw [show IntKind.i64.wrap (1 + 1) = 2 from qas (by decide) (by decide)]
     refine qae hE hS ?_
     conv=>whnf
     refine qab hC (qai a2) ?_
     by_cases s2:tth a2
     ·rw [zT s2]
      conv=>whnf
      refine qab hC (qai b2) ?_
      by_cases t2:tth b2
      ·rw [zT t2]
       conv=>whnf
       rw [show IntKind.i64.wrap (2 + 1) = 3 from qas (by decide) (by decide)]
       refine qae hE hS ?_
       conv=>whnf
       refine qab hC (qai a3) ?_
       by_cases s3:tth a3
       ·rw [zT s3]
        conv=>whnf
        refine qab hC (qai b3) ?_
        by_cases t3:tth b3
        ·rw [zT t3]
         conv=>whnf
         rw [show IntKind.i64.wrap (3 + 1) = 4 from qas (by decide) (by decide)]
         refine qae hE hS ?_
         conv=>whnf
         refine qab hC (qai a4) ?_
         by_cases s4:tth a4
         ·rw [zT s4]
          conv=>whnf
          refine qab hC (qai b4) ?_
          by_cases t4:tth b4
          ·rw [zT t4]
           conv=>whnf
           rw [show IntKind.i64.wrap (4 + 1) = 5 from qas (by decide) (by decide)]
           refine qae hE hS ?_
           conv=>whnf
           refine qab hC (qbg 5 1 3) ?_
           conv=>whnf
           exact ⟨_,rfl,Wk.refl _⟩
          ·rw [zF t4]
           conv=>whnf
           exact ⟨_,rfl,Wk.refl _⟩
         ·rw [zF s4]
          conv=>whnf
          exact ⟨_,rfl,Wk.refl _⟩
        ·rw [zF t3]
         conv=>whnf
         exact ⟨_,rfl,Wk.refl _⟩
       ·rw [zF s3]
        conv=>whnf
        exact ⟨_,rfl,Wk.refl _⟩
      ·rw [zF t2]
       conv=>whnf
       exact ⟨_,rfl,Wk.refl _⟩
     ·rw [zF s2]
      conv=>whnf
      exact ⟨_,rfl,Wk.refl _⟩
    ·rw [zF t1]
     conv=>whnf
     exact ⟨_,rfl,Wk.refl _⟩
   ·rw [zF s1]
    conv=>whnf
    exact ⟨_,rfl,Wk.refl _⟩
  ·rw [zF t0]
   conv=>whnf
   exact ⟨_,rfl,Wk.refl _⟩
 ·rw [zF s0]
  conv=>whnf
  exact ⟨_,rfl,Wk.refl _⟩
theorem qy2 (a0 b0 a1 b1 a2 b2 a3 b3 a4 b4 a5 b5:Int):Pure prog 18 [.lst [iv a0,iv b0,iv a1,iv b1,iv a2,iv b2,iv a3,iv b3,iv a4,iv b4,iv a5,iv b5] 6 .no] (.bool false) :=by
 refine pure_sym hE rfl ⟨⟨⟨trivial,trivial,trivial,trivial,trivial,trivial,trivial,trivial,trivial,trivial,trivial,trivial,trivial⟩,fun _ h => nomatch h⟩,trivial⟩ trivial fun S q pc hS hq hC hE => ?_
 conv=>whnf
 refine qae hE hS ?_
 conv=>whnf
 refine qab hC (qai a0) ?_
 by_cases s0:tth a0
 ·rw [zT s0]
  conv=>whnf
  refine qab hC (qai b0) ?_
  by_cases t0:tth b0
  ·rw [zT t0]
   conv=>whnf
   rw [show IntKind.i64.wrap (0 + 1) = 1 from qas (by decide) (by decide)]
   refine qae hE hS ?_
   conv=>whnf
   refine qab hC (qai a1) ?_
   by_cases s1:tth a1
   ·rw [zT s1]
    conv=>whnf
    refine qab hC (qai b1) ?_
    by_cases t1:tth b1
    ·rw [zT t1]
     conv=>whnf
     rw [show IntKind.i64.wrap (1 + 1) = 2 from qas (by decide) (by decide)]
     refine qae hE hS ?_
     conv=>whnf
     refine qab hC (qai a2) ?_
     by_cases s2:tth a2
     ·rw [zT s2]
      conv=>whnf
      refine qab hC (qai b2) ?_
      by_cases t2:tth b2
      ·rw [zT t2]
       conv=>whnf
       rw [show IntKind.i64.wrap (2 + 1) = 3 from qas (by decide) (by decide)]
       refine qae hE hS ?_
       conv=>whnf
       refine qab hC (qai a3) ?_
       by_cases s3:tth a3
       ·rw [zT s3]
        conv=>whnf
        refine qab hC (qai b3) ?_
        by_cases t3:tth b3
        ·rw [zT t3]
         conv=>whnf
         rw [show IntKind.i64.wrap (3 + 1) = 4 from qas (by decide) (by decide)]
         refine qae hE hS ?_
         conv=>whnf
         refine qab hC (qai a4) ?_
         by_cases s4:tth a4
         ·rw [zT s4]
          conv=>whnf
          refine qab hC (qai b4) ?_
          by_cases t4:tth b4
          ·rw [zT t4]
           conv=>whnf
           rw [show IntKind.i64.wrap (4 + 1) = 5 from qas (by decide) (by decide)]
           refine qae hE hS ?_
           conv=>whnf
           refine qab hC (qai a5) ?_
           by_cases s5:tth a5
           ·rw [zT s5]
            conv=>whnf
            refine qab hC (qai b5) ?_
            by_cases t5:tth b5
            ·rw [zT t5]
             conv=>whnf
             rw [show IntKind.i64.wrap (5 + 1) = 6 from qas (by decide) (by decide)]
             refine qae hE hS ?_
             conv=>whnf
             refine qab hC (qbg 6 1 3) ?_
             conv=>whnf
             exact ⟨_,rfl,Wk.refl _⟩
            ·rw [zF t5]
             conv=>whnf
             exact ⟨_,rfl,Wk.refl _⟩
           ·rw [zF s5]
            conv=>whnf
            exact ⟨_,rfl,Wk.refl _⟩
          ·rw [zF t4]
           conv=>whnf
           exact ⟨_,rfl,Wk.refl _⟩
         ·rw [zF s4]
          conv=>whnf
          exact ⟨_,rfl,Wk.refl _⟩
        ·rw [zF t3]
         conv=>whnf
         exact ⟨_,rfl,Wk.refl _⟩
       ·rw [zF s3]
        conv=>whnf
        exact ⟨_,rfl,Wk.refl _⟩
      ·rw [zF t2]
       conv=>whnf
       exact ⟨_,rfl,Wk.refl _⟩
     ·rw [zF s2]
      conv=>whnf
      exact ⟨_,rfl,Wk.refl _⟩
    ·rw [zF t1]
     conv=>whnf
     exact ⟨_,rfl,Wk.refl _⟩
   ·rw [zF s1]
    conv=>whnf
    exact ⟨_,rfl,Wk.refl _⟩
  ·rw [zF t0]
   conv=>whnf
   exact ⟨_,rfl,Wk.refl _⟩
 ·rw [zF s0]
  conv=>whnf
  exact ⟨_,rfl,Wk.refl _⟩
theorem qy1 (a0 b0 a1 b1 a2 b2 a3 b3 a4 b4 a5 b5 a6 b6:Int):Pure prog 18 [.lst [iv a0,iv b0,iv a1,iv b1,iv a2,iv b2,iv a3,iv b3,iv a4,iv b4,iv a5,iv b5,iv a6,iv b6] 7 .no] (.bool false) :=by
 refine pure_sym hE rfl ⟨⟨⟨trivial,trivial,trivial,trivial,trivial,trivial,trivial,trivial,trivial,trivial,trivial,trivial,trivial,trivial,trivial⟩,fun _ h => nomatch h⟩,trivial⟩ trivial fun S q pc hS hq hC hE => ?_
 conv=>whnf
 refine qae hE hS ?_
 conv=>whnf
 refine qab hC (qai a0) ?_
 by_cases s0:tth a0
 ·rw [zT s0]
  conv=>whnf
  refine qab hC (qai b0) ?_
  by_cases t0:tth b0
  ·rw [zT t0]
   conv=>whnf
   rw [show IntKind.i64.wrap (0 + 1) = 1 from qas (by decide) (by decide)]
   refine qae hE hS ?_
   conv=>whnf
   refine qab hC (qai a1) ?_
   by_cases s1:tth a1
   ·rw [zT s1]
    conv=>whnf
    refine qab hC (qai b1) ?_
    by_cases t1:tth b1
    ·rw [zT t1]
     conv=>whnf
     rw [show IntKind.i64.wrap (1 + 1) = 2 from qas (by decide) (by decide)]
     refine qae hE hS ?_
     conv=>whnf
     refine qab hC (qai a2) ?_
     by_cases s2:tth a2
     ·rw [zT s2]
      conv=>whnf
      refine qab hC (qai b2) ?_
      by_cases t2:tth b2
      ·rw [zT t2]
       conv=>whnf
       rw [show IntKind.i64.wrap (2 + 1) = 3 from qas (by decide) (by decide)]
       refine qae hE hS ?_
       conv=>whnf
       refine qab hC (qai a3) ?_
       by_cases s3:tth a3
       ·rw [zT s3]
        conv=>whnf
        refine qab hC (qai b3) ?_
        by_cases t3:tth b3
        ·rw [zT t3]
         conv=>whnf
         rw [show IntKind.i64.wrap (3 + 1) = 4 from qas (by decide) (by decide)]
         refine qae hE hS ?_
         conv=>whnf
         refine qab hC (qai a4) ?_
         by_cases s4:tth a4
         ·rw [zT s4]
          conv=>whnf
          refine qab hC (qai b4) ?_
          by_cases t4:tth b4
          ·rw [zT t4]
           conv=>whnf
           rw [show IntKind.i64.wrap (4 + 1) = 5 from qas (by decide) (by decide)]
           refine qae hE hS ?_
           conv=>whnf
           refine qab hC (qai a5) ?_
           by_cases s5:tth a5
           ·rw [zT s5]
            conv=>whnf
            refine qab hC (qai b5) ?_
            by_cases t5:tth b5
            ·rw [zT t5]
             conv=>whnf
             rw [show IntKind.i64.wrap (5 + 1) = 6 from qas (by decide) (by decide)]
             refine qae hE hS ?_
             conv=>whnf
             refine qab hC (qai a6) ?_
             by_cases s6:tth a6
             ·rw [zT s6]
              conv=>whnf
              refine qab hC (qai b6) ?_
              by_cases t6:tth b6
              ·rw [zT t6]
               conv=>whnf
               rw [show IntKind.i64.wrap (6 + 1) = 7 from qas (by decide) (by decide)]
               refine qae hE hS ?_
               conv=>whnf
               refine qab hC (qbg 7 1 3) ?_
               conv=>whnf
               exact ⟨_,rfl,Wk.refl _⟩
              ·rw [zF t6]
               conv=>whnf
               exact ⟨_,rfl,Wk.refl _⟩
             ·rw [zF s6]
              conv=>whnf
              exact ⟨_,rfl,Wk.refl _⟩
            ·rw [zF t5]
             conv=>whnf
             exact ⟨_,rfl,Wk.refl _⟩
           ·rw [zF s5]
            conv=>whnf
            exact ⟨_,rfl,Wk.refl _⟩
          ·rw [zF t4]
           conv=>whnf
           exact ⟨_,rfl,Wk.refl _⟩
         ·rw [zF s4]
          conv=>whnf
          exact ⟨_,rfl,Wk.refl _⟩
        ·rw [zF t3]
         conv=>whnf
         exact ⟨_,rfl,Wk.refl _⟩
       ·rw [zF s3]
        conv=>whnf
        exact ⟨_,rfl,Wk.refl _⟩
      ·rw [zF t2]
       conv=>whnf
       exact ⟨_,rfl,Wk.refl _⟩
     ·rw [zF s2]
      conv=>whnf
      exact ⟨_,rfl,Wk.refl _⟩
    ·rw [zF t1]
     conv=>whnf
     exact ⟨_,rfl,Wk.refl _⟩
   ·rw [zF s1]
    conv=>whnf
    exact ⟨_,rfl,Wk.refl _⟩
  ·rw [zF t0]
   conv=>whnf
   exact ⟨_,rfl,Wk.refl _⟩
 ·rw [zF s0]
  conv=>whnf
  exact ⟨_,rfl,Wk.refl _⟩
theorem qy0 (a0 b0 a1 b1 a2 b2 a3 b3 a4 b4 a5 b5 a6 b6 a7 b7:Int):Pure prog 18 [.lst [iv a0,iv b0,iv a1,iv b1,iv a2,iv b2,iv a3,iv b3,iv a4,iv b4,iv a5,iv b5,iv a6,iv b6,iv a7,iv b7] 8 .no] (.bool false) :=by
 refine pure_sym hE rfl ⟨⟨⟨trivial,trivial,trivial,trivial,trivial,trivial,trivial,trivial,trivial,trivial,trivial,trivial,trivial,trivial,trivial,trivial,trivial⟩,fun _ h => nomatch h⟩,trivial⟩ trivial fun S q pc hS hq hC hE => ?_
 conv=>whnf
 refine qae hE hS ?_
 conv=>whnf
 refine qab hC (qai a0) ?_
 by_cases s0:tth a0
 ·rw [zT s0]
  conv=>whnf
  refine qab hC (qai b0) ?_
  by_cases t0:tth b0
  ·rw [zT t0]
   conv=>whnf
   rw [show IntKind.i64.wrap (0 + 1) = 1 from qas (by decide) (by decide)]
   refine qae hE hS ?_
   conv=>whnf
   refine qab hC (qai a1) ?_
   by_cases s1:tth a1
   ·rw [zT s1]
    conv=>whnf
    refine qab hC (qai b1) ?_
    by_cases t1:tth b1
    ·rw [zT t1]
     conv=>whnf
     rw [show IntKind.i64.wrap (1 + 1) = 2 from qas (by decide) (by decide)]
     refine qae hE hS ?_
     conv=>whnf
     refine qab hC (qai a2) ?_
     by_cases s2:tth a2
     ·rw [zT s2]
      conv=>whnf
      refine qab hC (qai b2) ?_
      by_cases t2:tth b2
      ·rw [zT t2]
       conv=>whnf
       rw [show IntKind.i64.wrap (2 + 1) = 3 from qas (by decide) (by decide)]
       refine qae hE hS ?_
       conv=>whnf
       refine qab hC (qai a3) ?_
       by_cases s3:tth a3
       ·rw [zT s3]
        conv=>whnf
        refine qab hC (qai b3) ?_
        by_cases t3:tth b3
        ·rw [zT t3]
         conv=>whnf
         rw [show IntKind.i64.wrap (3 + 1) = 4 from qas (by decide) (by decide)]
         refine qae hE hS ?_
         conv=>whnf
         refine qab hC (qai a4) ?_
         by_cases s4:tth a4
         ·rw [zT s4]
          conv=>whnf
          refine qab hC (qai b4) ?_
          by_cases t4:tth b4
          ·rw [zT t4]
           conv=>whnf
           rw [show IntKind.i64.wrap (4 + 1) = 5 from qas (by decide) (by decide)]
           refine qae hE hS ?_
           conv=>whnf
           refine qab hC (qai a5) ?_
           by_cases s5:tth a5
           ·rw [zT s5]
            conv=>whnf
            refine qab hC (qai b5) ?_
            by_cases t5:tth b5
            ·rw [zT t5]
             conv=>whnf
             rw [show IntKind.i64.wrap (5 + 1) = 6 from qas (by decide) (by decide)]
             refine qae hE hS ?_
             conv=>whnf
             refine qab hC (qai a6) ?_
             by_cases s6:tth a6
             ·rw [zT s6]
              conv=>whnf
              refine qab hC (qai b6) ?_
              by_cases t6:tth b6
              ·rw [zT t6]
               conv=>whnf
               rw [show IntKind.i64.wrap (6 + 1) = 7 from qas (by decide) (by decide)]
               refine qae hE hS ?_
               conv=>whnf
               refine qab hC (qai a7) ?_
               by_cases s7:tth a7
               ·rw [zT s7]
                conv=>whnf
                refine qab hC (qai b7) ?_
                by_cases t7:tth b7
                ·rw [zT t7]
                 conv=>whnf
                 rw [show IntKind.i64.wrap (7 + 1) = 8 from qas (by decide) (by decide)]
                 refine qae hE hS ?_
                 conv=>whnf
                 refine qab hC (qbg 8 1 3) ?_
                 conv=>whnf
                 exact ⟨_,rfl,Wk.refl _⟩
                ·rw [zF t7]
                 conv=>whnf
                 exact ⟨_,rfl,Wk.refl _⟩
               ·rw [zF s7]
                conv=>whnf
                exact ⟨_,rfl,Wk.refl _⟩
              ·rw [zF t6]
               conv=>whnf
               exact ⟨_,rfl,Wk.refl _⟩
             ·rw [zF s6]
              conv=>whnf
              exact ⟨_,rfl,Wk.refl _⟩
            ·rw [zF t5]
             conv=>whnf
             exact ⟨_,rfl,Wk.refl _⟩
           ·rw [zF s5]
            conv=>whnf
            exact ⟨_,rfl,Wk.refl _⟩
          ·rw [zF t4]
           conv=>whnf
           exact ⟨_,rfl,Wk.refl _⟩
         ·rw [zF s4]
          conv=>whnf
          exact ⟨_,rfl,Wk.refl _⟩
        ·rw [zF t3]
         conv=>whnf
         exact ⟨_,rfl,Wk.refl _⟩
       ·rw [zF s3]
        conv=>whnf
        exact ⟨_,rfl,Wk.refl _⟩
      ·rw [zF t2]
       conv=>whnf
       exact ⟨_,rfl,Wk.refl _⟩
     ·rw [zF s2]
      conv=>whnf
      exact ⟨_,rfl,Wk.refl _⟩
    ·rw [zF t1]
     conv=>whnf
     exact ⟨_,rfl,Wk.refl _⟩
   ·rw [zF s1]
    conv=>whnf
    exact ⟨_,rfl,Wk.refl _⟩
  ·rw [zF t0]
   conv=>whnf
   exact ⟨_,rfl,Wk.refl _⟩
 ·rw [zF s0]
  conv=>whnf
  exact ⟨_,rfl,Wk.refl _⟩
end Go.Abs.Seat
