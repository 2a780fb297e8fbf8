/-
  All lists of workers, as the document says.
-/
import Derived.Test.YtlmadgdonalncaaGreatDoorU16
namespace Go.Abs.Seat
noncomputable section
open Go Go.Abs Go.Proofs.Tryz
set_option maxRecDepth 100000
set_option maxHeartbeats 40000000
attribute [local irreducible] IntKind.wrap pEq
def exR (x:List Int) (n:Nat):List (List Int) :=(List.range n).map fun n => x ++ [Int.ofNat n]
def exF (w:Nat):List (List Int) → List (List Int)
 | [] => []
 |x :: r => exR x w ++ exF w r
def alP (w:Nat):Nat → List (List Int)
 | 0 => [[]]
 |i + 1 => exF w (alP w i)
theorem qtl {w:Nat}:∀ {L:List (List Int)} {z:List Int},z ∈ exF w L ↔ ∃ x n,x ∈ L ∧ n < w ∧ z = x ++ [Int.ofNat n]
 | [],z => ⟨fun h => (by cases h),fun ⟨_,_,h,_⟩ => (by cases h)⟩
 |y :: r,z => by
  rw [exF,List.mem_append,qtl (L :=r)]
  constructor
  ·rintro (h | ⟨x,n,h1,h2⟩)
   ·unfold exR at h
    obtain ⟨n,h1,h2⟩ :=List.mem_map.1 h
    exact ⟨y,n,List.mem_cons_self ..,List.mem_range.1 h1,h2.symm⟩
   ·exact ⟨x,n,List.mem_cons_of_mem _ h1,h2⟩
  ·rintro ⟨x,n,h1,h2,h3⟩
   rcases List.mem_cons.1 h1 with rfl | h1
   ·exact .inl (List.mem_map.2 ⟨n,List.mem_range.2 h2,h3.symm⟩)
   ·exact .inr ⟨x,n,h1,h2,h3⟩
end
end Go.Abs.Seat
