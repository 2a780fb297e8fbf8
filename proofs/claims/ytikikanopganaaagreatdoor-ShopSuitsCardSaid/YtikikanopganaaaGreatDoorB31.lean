/-
  All changes of a piece, as the document lists them.
-/
import Derived.Test.YtikikanopganaaaGreatDoorU11
import Derived.Test.YtikikanopganaaaGreatDoorB7
/-! All changes of a piece, as the document lists them. -/
namespace Go.Abs.Seat
noncomputable section
open Go Go.Abs Go.Proofs.Tryz
set_option maxRecDepth 100000
set_option maxHeartbeats 40000000
attribute [local irreducible] IntKind.wrap pEq

def cgB (N : List Lk) (i a lo : Nat) : Nat → List Lk
 | 0 => []
 |j + 1 => cgB N i a lo j ++ if (gN N i).2 = (a, lo + j) then [] else [(i, a, lo + j)]
def cgA (N : List Lk) (i lo w : Nat) : Nat → List Lk
 | 0 => []
 |s + 1 => cgA N i lo w s ++ cgB N i (lo + s) lo w
def cgF (N : List Lk) (lo w : Nat) : Nat → List Lk
 | 0 => []
 |k + 1 => cgF N lo w k ++ cgA N k lo w w
end
end Go.Abs.Seat
