/-
  Sharings held against each other by the document; the sharing that somebody proposes.
-/
import Derived.Test.YtpjclnoehlflcaaGreatDoorT81
import Derived.Test.YtpjclnoehlflcaaGreatDoorU15
import Derived.Test.YtpjclnoehlflcaaGreatDoorU5
namespace Go.Abs.Seat
noncomputable section
open Go Go.Abs Go.Proofs.Tryz
set_option maxRecDepth 100000
set_option maxHeartbeats 40000000
attribute [local irreducible] IntKind.wrap pEq
theorem bneN {A B:Nat} (h:A ≠ B):(Int.ofNat A != Int.ofNat B) = true :=bne_iff_ne.2 fun e => h (Int.ofNat.inj e)
theorem qif (a b:List (List (Nat × Nat))) (fs:List (Nat × Nat)) (t:Nat) (ha:a.length = fs.length) (hb:b.length = fs.length) (h3:fs.length ≤ 3) (ga:∀ u,u ∈ a → gT u) (gb:∀ u,u ∈ b → gT u) (hf:∀ f,f ∈ fs → f.1 ≤ 50000 ∧ 1 ≤ f.2 ∧ f.2 ≤ 50000) (ht:t ≤ 10000) :
  Pure prog 52 [tlV a,tlV b,pv (zp fs),nv t] (.bool (prfB t fs a b)) :=by
 have p1 :=qfv a fs t (by omega) h3 ga hf ht
 have p2 :=qfv b fs t (by omega) h3 gb hf ht
 have p3 :=qen a (by omega) fun u hu => (ga u hu).2.1
 have p4 :=qen b (by omega) fun u hu => (gb u hu).2.1
 have p5 :=qks a b (by omega) (fun u hu => (ga u hu).2.1) fun u hu => (gb u hu).2.1
 have la :=qba a
 have lb :=qba b
 have lf :=qag (zp fs)
 unfold prfB
 generalize wrA t 0 fs a = A at *
 generalize wrA t 0 fs b = B at *
 generalize smA 0 a = C at *
 generalize smA 0 b = D at *
 generalize earB a b = e at *
 by_cases h1:A = B
 ·subst h1
  rw [if_pos rfl]
  by_cases h2:C = D
  ·subst h2
   rw [if_pos rfl]
   refine zA fun S q pc hS hq hC hE => ?_
   conv=>whnf
   repeat ((first
    |refine qab hC (p1) ?_
    |refine qab hC (p2) ?_
    |refine qab hC (p3) ?_
    |refine qab hC (p4) ?_
    |refine qab hC (p5) ?_
    |refine zd hS ?_
    |refine qa7 hq true (qbs _ _) ?_
    |rw [beq_self_eq_true]
    |rw [bne_self_eq_false]);conv=>whnf)
   exact ⟨_,rfl,Wk.refl _⟩
  ·rw [if_neg h2]
   refine zA fun S q pc hS hq hC hE => ?_
   conv=>whnf
   repeat ((first
    |refine qab hC (p1) ?_
    |refine qab hC (p2) ?_
    |refine qab hC (p3) ?_
    |refine qab hC (p4) ?_
    |rw [bneN h2]
    |refine zd hS ?_
    |refine qa7 hq true (qbs _ _) ?_
    |rw [beq_self_eq_true]
    |rw [bne_self_eq_false]);conv=>whnf)
   exact ⟨_,rfl,wkb (decide_eq_decide.2 (by show (C:Int) < (D:Int) ↔ _;omega))⟩
 ·rw [if_neg h1]
  refine zA fun S q pc hS hq hC hE => ?_
  conv=>whnf
  repeat ((first
   |refine qab hC (p1) ?_
   |refine qab hC (p2) ?_
   |rw [bneN h1]
   |refine zd hS ?_
   |refine qa7 hq true (qbs _ _) ?_
   |rw [beq_self_eq_true]
   |rw [bne_self_eq_false]);conv=>whnf)
  exact ⟨_,rfl,wkb (decide_eq_decide.2 (by show (A:Int) < (B:Int) ↔ _;omega))⟩
theorem qut (a b p s m:Int) {N:AV} {l:List Int} (hN:IL N l):Pure prog 114 [rv a b p s N,iv m] (rv a b m s N) :=by
 have lN :=hN.no
 rcases hN.cs with rfl | rfl
 all_goals
  refine zA fun S q pc hS hq hC hE => ?_
  conv=>whnf
  exact ⟨_,rfl,Wk.refl _⟩
end
end Go.Abs.Seat
