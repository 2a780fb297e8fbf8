/-
  The document's near: the fractions of products that come nearest.
-/
import Derived.Test.YtcnidgafdonioaaGreatVU9
import Derived.Test.YtcnidgafdonioaaGreatVT44
import Derived.Test.YtcnidgafdonioaaGreatVU5
namespace Go.Abs.Seat
noncomputable section
open Go Go.Abs Go.Proofs.Tryz
set_option maxRecDepth 100000
set_option maxHeartbeats 40000000
attribute [local irreducible] IntKind.wrap pEq
theorem gd_tt {x:Nat} {c:Bool} (h:c = true):@Bool.rec (fun _ => Bool) (@Bool.rec (fun _ => Bool) true false (x,true).snd) (x,true).snd c = true :=by subst h;rfl
theorem gd_tf {x:Nat} {c:Bool} (h:c = false):@Bool.rec (fun _ => Bool) (@Bool.rec (fun _ => Bool) true false (x,true).snd) (x,true).snd c = false :=by subst h;rfl
end
end Go.Abs.Seat
