/-
  The document's near: the fractions of products that come nearest.
-/
import Derived.Test.YtnimgfkggbnjoaaGreatDoorXU9
import Derived.Test.YtnimgfkggbnjoaaGreatDoorXT44
import Derived.Test.YtnimgfkggbnjoaaGreatDoorXU5
namespace Go.Abs.Seat
noncomputable section
open Go Go.Abs Go.Proofs.Tryz
set_option maxRecDepth 100000
set_option maxHeartbeats 40000000
attribute [local irreducible] IntKind.wrap pEq
theorem qcc {x:Nat} {c:Bool} (h:c = true):@Bool.rec (fun _ => Bool) (@Bool.rec (fun _ => Bool) true false (x,true).snd) (x,true).snd c = true :=by subst h;rfl
theorem qc8 {x:Nat} {c:Bool} (h:c = false):@Bool.rec (fun _ => Bool) (@Bool.rec (fun _ => Bool) true false (x,true).snd) (x,true).snd c = false :=by subst h;rfl
end
end Go.Abs.Seat
