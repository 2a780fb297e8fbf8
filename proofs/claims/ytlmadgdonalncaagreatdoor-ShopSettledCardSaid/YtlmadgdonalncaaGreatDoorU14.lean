/-
  Books of accounts, plain: the document's order of settlements.
-/
import Derived.Test.YtlmadgdonalncaaGreatDoorU12
import Derived.Test.YtlmadgdonalncaaGreatDoorU8
/-! Books of accounts, plain: the document's order of settlements. -/
namespace Go.Abs.Seat
noncomputable section
open Go Go.Abs Go.Proofs.Tryz
set_option maxRecDepth 100000
set_option maxHeartbeats 4000000

def pk (C : List LkI) (x : List Int) : List LkI := x.map fun i => gL C i.toNat
theorem pw_ix {C : List LkI} (hC : C.Pairwise elP) {i j : Nat} (hi : i < C.length) (hj : j < C.length) (h : i < j) : elP (gL C i) (gL C j) := by
 have e1 : gL C i = C[i] := by simp [gL, List.getD, hi]
 have e2 : gL C j = C[j] := by simp [gL, List.getD, hj]
 rw [e1, e2]
 exact List.pairwise_iff_getElem.1 hC i j hi hj h
end
end Go.Abs.Seat
