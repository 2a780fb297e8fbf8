/-
  A list of pairs as argument, opened: the list itself.
-/
import Derived.Test.YtgojpjbbahljeaaGreatDoorW3
import Derived.Test.YtgojpjbbahljeaaGreatDoorT15
/-! A list of pairs as argument, opened: the list itself. -/
namespace Go.Proofs.YtgojpjbbahljeaaGreatDoor
open Go.ChangeShapes Go.WideShapes Go.ChangeAt Go.RowKit Go.Joins Go.Deep
open Go.Abs (VRels VRel LRel ghOf noL Lives Live AV Own Pure Gh)
open Go.Abs.Seat (pv PL)

theorem pairs_arg {H : Type} {enc : TypeId × Value → H} {P : Program} {w : World} {base0 : Nat} {ts te : TypeId} {f0 f1 : Field} {v : Value} {d : DataW H} {p : List MemPlace}
    (ht : P.underlying ts = some (.slice te)) (he : P.underlying te = some (.struct #[f0, f1])) (ce : P.cellsOf te = 2) (o0 : f0.offset = 0) (o1 : f1.offset = 1) (c0 : P.cellsOf f0.type = 1) (c1 : P.cellsOf f1.type = 1)
    (i0 : P.underlying f0.type = some (.int .i64)) (i1 : P.underlying f1.type = some (.int .i64))
    (hv : Value.okWide P w .any base0 ts v) (h : DataW.Trod enc P w 0 (fun _ => true) true ts v d p) :
    ∃ (x : AV) (l : List (Int × Int)) (N : Nat), Live noL x ∧ PL x l ∧ ∀ M, N ≤ M → VRel (ghOf (fun _ => M) w) w x v := by
  rcases open_pairs ht he ce o0 o1 c0 c1 i0 i1 hv h with rfl | ⟨l, N, hr⟩
  · exact ⟨.nils, [], 0, trivial, .inl ⟨rfl, rfl⟩, fun _ _ => rfl⟩
  · exact ⟨pv l, l, N, Go.Abs.Seat.pv_no l, .inr rfl, hr⟩
end Go.Proofs.YtgojpjbbahljeaaGreatDoor
