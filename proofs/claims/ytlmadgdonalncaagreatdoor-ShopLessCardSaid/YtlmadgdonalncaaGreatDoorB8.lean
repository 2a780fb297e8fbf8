/-
  Bills: what the program tells, and the document.
-/
import Derived.Test.YtlmadgdonalncaaGreatDoorU10
import Derived.Test.YtlmadgdonalncaaGreatDoorT36
namespace Go.Abs.Seat
noncomputable section
open Go Go.Abs Go.Proofs.Tryz
set_option maxRecDepth 100000
set_option maxHeartbeats 40000000
attribute [local irreducible] IntKind.wrap pEq
theorem wkE2 {v v2:AV} (h:v = v2):Wk v v2 :=by subst h;exact Wk.refl _
theorem qud (l:List Nat) {i:Nat} (h:i < l.length):(l.take (i + 1)).sum = (l.take i).sum + gn l i :=by
 rw [qw7 l h,List.sum_append];simp
theorem que (l:List Nat) (i:Nat):(l.take i).sum ≤ l.sum :=by
 have :=List.sum_append (l₁ :=l.take i) (l₂ :=l.drop i)
 rw [List.take_append_drop] at this
 omega
theorem qe1 (l:List Nat) (hl:l.length < 4611686018427387904) (hs:l.sum < 4611686018427387904):Pure prog 116 [nl (zl l)] (nv l.sum) :=by
 have ll :=qal (zl l)
 have hz :=qct l
 refine qas hE rfl (by repeat' first|exact trivial|assumption|exact qag _|exact fun _ h => nomatch h|apply And.intro) (by repeat' first|exact trivial|assumption|exact qag _|exact fun _ h => nomatch h|apply And.intro) fun S q pc hS hq hC hE => ?_
 conv => whnf
 refine qfr hE hS (A :=Nat) [6,7] (fun i => [(3,nv (l.take i).sum),(8,nv i)]) (fun _ => []) (fun i => i ≤ l.length) (fun i => l.length - i) 0 rfl rfl (by refine ⟨rfl,rfl,rfl,rfl,?_,?_⟩ <;> repeat' (first|exact trivial|exact rfl|exact Nat.zero_le _|exact kle rfl|exact qae (by assumption)|exact qae (qag _)|exact qae (qal _)|exact mxI rfl|apply And.intro)) (Nat.zero_le _) ?_
 intro i hi
 conv => whnf
 by_cases h:i < l.length
 ·have h2:i < (zl l).length :=by omega
  have e :=qud l h
  have e2 :=que l (i + 1)
  refine qaa (qa3 h2) ?_
  conv => whnf
  refine qaa (qav h2) ?_
  conv => whnf
  refine qaf (nthP (show nth (ivs (zl l)) (i * 1) = some (nv (gn l i)) by rw [qbp h2,qkk l h])) ?_
  conv => whnf
  exact ⟨i + 1,h,by omega,(by refine ⟨rfl,rfl,rfl,rfl,?_,?_⟩ <;> repeat' (first|exact trivial|exact rfl|exact Nat.zero_le _|exact congrArg (fun z => some (AV.int .i64 z)) (show IntKind.i64.wrap (Int.ofNat (l.take i).sum + Int.ofNat (gn l i)) = Int.ofNat (l.take (i + 1)).sum by rw [e];exact qa7 (m :=(l.take i).sum + gn l i) (by omega))|exact congrArg (fun z => some (AV.int .i64 z)) (qa7 (m :=i + 1) (by omega))|exact kle rfl|exact qae (by assumption)|exact qae (qag _)|exact qae (qal _)|exact mxI rfl|apply And.intro))⟩
 ·have e:l.take i = l :=List.take_of_length_le (by omega)
  refine qac (qbn (show ¬ i < (zl l).length by omega)) ?_
  conv => whnf
  rw [e]
  exact ⟨_,rfl,Wk.refl _⟩
end
end Go.Abs.Seat
