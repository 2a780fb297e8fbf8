/-
  The law ShopChanges.
-/
import Derived.Test.YtikikanopganaaaGreatDoorU13
import Derived.Test.YtikikanopganaaaGreatDoorL34
/-! The law ShopChanges. -/
namespace Go.Abs.Seat
noncomputable section
open Go Go.Abs Go.Proofs.Tryz
set_option maxRecDepth 100000
set_option maxHeartbeats 40000000
attribute [local irreducible] IntKind.wrap pEq

theorem eqCg (cst : Bool) (a b c x y z : Int) : q0 66 cst (tv3 a b c) (tv3 x y z) = @Bool.rec (fun _ => Option Bool) (some false) (@Option.rec Bool (fun _ => Option Bool) none (fun e => @Bool.rec (fun _ => Option Bool) (some false) (some true) e) (@Bool.rec (fun _ => Option Bool) (some false) (@Bool.rec (fun _ => Option Bool) (some false) (some true) (c == z)) (b == y))) (a == x) := by kernel_rfl
theorem eqCg_same (cst : Bool) (a b c : Int) : q0 66 cst (tv3 a b c) (tv3 a b c) = some true := by
 rw [eqCg, show (a == a) = true from beq_self_eq_true a, show (b == b) = true from beq_self_eq_true b, show (c == c) = true from beq_self_eq_true c]
def cuOk (n a b c f d : Int) : Prop := (rgOk a b ∧ IntKind.i64.wrap (b - a) ≤ 10) ∧ (0 ≤ c ∧ c < n) ∧ isF f d
theorem wide_b (a b : Int) : ∃ x : Bool, Pure prog 49 [iv a, iv b] (.bool x) ∧ (x = true ↔ rgOk a b ∧ IntKind.i64.wrap (b - a) ≤ 10) := by
 refine ⟨_, wide_pure a b (rRange_pure a b), ?_⟩
 rw [Bool.and_eq_true, decide_eq_true_iff, decide_eq_true_iff]
 exact Iff.rfl
end
end Go.Abs.Seat
