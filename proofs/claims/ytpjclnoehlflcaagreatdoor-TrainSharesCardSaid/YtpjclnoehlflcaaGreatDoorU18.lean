/-
  Sharing pairs: what the document says of what is asked.
  Sharing pairs: one pair more.
  Sharing pairs: what Share tells, in numbers; one pair more.
  The document's settings.
-/
import Derived.Test.YtpjclnoehlflcaaGreatDoorT72
import Derived.Test.YtpjclnoehlflcaaGreatDoorU15
import Derived.Test.YtpjclnoehlflcaaGreatDoorU16
namespace Go.Abs.Seat
noncomputable section
open Go Go.Abs Go.Proofs.Tryz
set_option maxRecDepth 100000
set_option maxHeartbeats 40000000
attribute [local irreducible] IntKind.wrap pEq
theorem qmd (n:Int):Pure prog 46 [iv n] (.bool (decide (1 ≤ n ∧ n ≤ 9))) :=by
 refine zA fun S q pc hS hq hC hE => ?_
 conv=>whnf
 refine qab hC (qbg n 1 9) ?_
 conv=>whnf
 exact ⟨_,rfl,Wk.refl _⟩
def tgOk (l:List (Int × Int)):Prop :=(1 ≤ l.length ∧ l.length ≤ 3) ∧ allF l
instance (l:List (Int × Int)):Decidable (tgOk l) :=Classical.propDecidable _
theorem qko (l:List (Int × Int)) (hl:l.length < 4611686018427387904) {r:Bool} (hr:r = true ↔ tgOk l):Pure prog 45 [pv l] (.bool r) :=by
 have ll :=qag l
 refine zA fun S q pc hS hq hC hE => ?_
 conv=>whnf
 refine qbh hE hS (A :=Nat) [0] (fun i => [(3,nv i)]) (fun _ => []) (fun i => i ≤ l.length ∧ ∀ j,j < i → isF (gI l j).1 (gI l j).2) (fun i => l.length - i) 0 rfl rfl zD ⟨Nat.zero_le _,fun _ h => absurd h (Nat.not_lt_zero _)⟩ ?_
 intro i ⟨hi,he⟩
 conv=>whnf
 by_cases h:i < l.length
 ·refine qaa ((show decide (Int.ofNat i < (l.length:Int)) = true from zT (show (i:Int) < (l.length:Int) by omega))) ?_
  conv=>whnf
  refine qaa (qaf (show i < l.length by omega)) ?_
  conv=>whnf
  refine qac (takP (qxr l h)) ?_
  refine qab hC (qjb (gI l i).1 (gI l i).2) ?_
  conv=>whnf
  by_cases h1:isF (gI l i).1 (gI l i).2
  ·rw [zT h1]
   conv=>whnf
   rw [show IntKind.i64.wrap (Int.ofNat i + 1) = Int.ofNat (i + 1) from qa2 (m :=i + 1) (by omega)]
   exact ⟨i + 1,⟨h,fun j hj => by
    by_cases e:j = i
    ·subst e;exact h1
    ·exact he j (by omega)⟩,by omega,zD⟩
  ·rw [zF h1]
   conv=>whnf
   have hf:r = false :=Bool.eq_false_iff.2 fun z => h1 ((hr.1 z).2 _ (by
    have :=qox l h
    exact List.mem_of_mem_drop (i :=i) (by rw [this];exact List.mem_cons_self)))
   rw [hf]
   exact ⟨_,rfl,Wk.refl _⟩
 ·refine qad (zF (show ¬ (i:Int) < (l.length:Int) by omega)) ?_
  conv=>whnf
  refine qab hC (qbg (l.length:Int) 1 3) ?_
  conv=>whnf
  have hA:allF l :=fun p hp => by
   obtain ⟨j,hj,e⟩ :=List.getElem_of_mem hp
   have :=he j (by omega)
   rwa [show gI l j = p by rw [← e];simp [gI,List.getD,hj]] at this
  rw [show r = decide (1 ≤ (l.length:Int) ∧ (l.length:Int) ≤ 3) by
   rw [Bool.eq_iff_iff,decide_eq_true_iff,hr]
   exact ⟨fun z => by have :=z.1;omega,fun z => ⟨by omega,hA⟩⟩]
  exact ⟨_,rfl,Wk.refl _⟩
theorem qkp:Pure prog 45 [.nils] (.bool false) :=by
 refine zA fun S q pc hS hq hC hE => ?_
 conv=>whnf
 refine qae hE hS ?_
 conv=>whnf
 refine qab hC (qbg 0 1 3) ?_
 conv=>whnf
 exact ⟨_,rfl,Wk.refl _⟩
theorem qf5 {N:AV} {l:List Int} (hN:IL N l) (hl:l.length < 4611686018427387904) (a b p s:Int) (hs:-9223372036854775808 ≤ s ∧ s < 9223372036854775808) (q t:Int) :
  Pure prog 44 [rv a b p s N,.nils,iv q,iv t] (.tup [.nils,iv 0,iv 2]) :=by
 have lN :=hN.no
 have h1 :=fun r (hr:r = true ↔ rOk a b p s l) => qev hN hl a b p s hs hr
 have h2:Pure prog 103 [iv 0,iv 1,iv 3] (.bool false) :=inX ⟨fun z => (nomatch z),fun z => absurd z.1 (by decide)⟩
 by_cases c1:rOk a b p s l
 ·have h1 :=h1 true ⟨fun _ => c1,fun _ => rfl⟩
  rcases hN.cs with rfl | rfl
  all_goals
   refine zA fun S q pc hS hq hC hE => ?_
   conv=>whnf
   repeat ((first
    |refine qab hC (h1) ?_
    |refine qab hC (h2) ?_
    |refine zd hS ?_);conv=>whnf)
   exact ⟨_,rfl,Wk.refl _⟩
 ·have h1 :=h1 false ⟨fun z => (nomatch z),fun z => absurd z c1⟩
  rcases hN.cs with rfl | rfl
  all_goals
   refine zA fun S q pc hS hq hC hE => ?_
   conv=>whnf
   repeat ((first
    |refine qab hC (h1) ?_
    |refine zd hS ?_);conv=>whnf)
   exact ⟨_,rfl,Wk.refl _⟩
end
end Go.Abs.Seat
namespace Go.Abs.Seat
noncomputable section
open Go Go.Abs Go.Proofs.Tryz
set_option maxRecDepth 100000

end
end Go.Abs.Seat
namespace Go.Abs.Seat
noncomputable section
open Go Go.Abs Go.Proofs.Tryz
set_option maxRecDepth 100000
set_option maxHeartbeats 40000000
attribute [local irreducible] IntKind.wrap pEq
theorem q1h {fs:List (Int × Int)} (h:allF fs):∃ gs:List (Nat × Nat),fs = zp gs ∧ ∀ f,f ∈ gs → f.1 ≤ 50000 ∧ 1 ≤ f.2 ∧ f.2 ≤ 50000 :=by
 induction fs with
 |nil => exact ⟨[],rfl,fun _ z => (nomatch z)⟩
 |cons x r ih =>
  obtain ⟨gs,e,hg⟩ :=ih (qfe.1 h).2
  obtain ⟨⟨h1,h2⟩,h3,h4⟩ :=(qfe.1 h).1
  obtain ⟨x1,x2⟩ :=x
  have h1:0 ≤ x1 :=h1
  have h2:x1 ≤ 50000 :=h2
  have h3:1 ≤ x2 :=h3
  have h4:x2 ≤ 50000 :=h4
  refine ⟨(x1.toNat,x2.toNat) :: gs,?_,fun f hf => ?_⟩
  ·rw [e]
   show (x1,x2) :: zp gs = (((x1.toNat:Nat):Int),((x2.toNat:Nat):Int)) :: zp gs
   rw [Int.toNat_of_nonneg h1,Int.toNat_of_nonneg (by omega)]
  ·rcases List.mem_cons.1 hf with z | z
   ·subst z
    show x1.toNat ≤ 50000 ∧ 1 ≤ x2.toNat ∧ x2.toNat ≤ 50000
    omega
   ·exact hg f z
theorem qv2 {N:AV} {l:List Int} (hN:IL N l) (hl:l.length < 4611686018427387904) (a b p s:Int) (hs:-9223372036854775808 ≤ s ∧ s < 9223372036854775808) (fs:List (Int × Int)) (q t:Int) (h:shOk a b p s l fs q t) :
  ∃ (A B P:Nat) (gs:List (Nat × Nat)) (Q T:Nat),a = Int.ofNat A ∧ b = Int.ofNat B ∧ p = Int.ofNat P ∧ fs = zp gs ∧ q = Int.ofNat Q ∧ t = Int.ofNat T ∧
   Pure prog 44 [rv a b p s N,pv fs,iv q,iv t] (shO (srch (trS A B l s) P Q T gs ([],0,0))) :=by
 obtain ⟨ho,hf,hA,hq,ht⟩ :=h
 have pr :=qev hN hl a b p s hs (r :=true) ⟨fun _ => ho,fun _ => rfl⟩
 obtain ⟨⟨h1,h2⟩,⟨h3,h4⟩,h5,⟨h6,h7⟩,h8,_⟩ :=ho
 obtain ⟨gs,rfl,hg⟩ :=q1h hA
 obtain ⟨A,rfl⟩ :=Int.eq_ofNat_of_zero_le (show 0 ≤ a by omega)
 obtain ⟨B,rfl⟩ :=Int.eq_ofNat_of_zero_le (show 0 ≤ b by omega)
 obtain ⟨P,rfl⟩ :=Int.eq_ofNat_of_zero_le (show 0 ≤ p by omega)
 obtain ⟨Q,rfl⟩ :=Int.eq_ofNat_of_zero_le (show 0 ≤ q by omega)
 obtain ⟨T,rfl⟩ :=Int.eq_ofNat_of_zero_le (show 0 ≤ t by omega)
 rw [qa9] at hf
 exact ⟨A,B,P,gs,Q,T,rfl,rfl,rfl,rfl,rfl,rfl,qq5 hN hl A B (by omega) (by omega) (by omega) s h8 P (by omega) pr gs hf hg Q (by omega) T (by omega)⟩

end
end Go.Abs.Seat
