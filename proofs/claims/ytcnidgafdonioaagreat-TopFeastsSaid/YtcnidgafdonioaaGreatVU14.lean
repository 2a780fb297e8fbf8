/-
  Bills: what is as defined.
-/
import Derived.Test.YtcnidgafdonioaaGreatVU7
import Derived.Test.YtcnidgafdonioaaGreatVT51
import Derived.Test.YtcnidgafdonioaaGreatVU9
import Derived.Test.YtcnidgafdonioaaGreatVU6
import Derived.Test.YtcnidgafdonioaaGreatVU5
namespace Go.Abs.Seat
noncomputable section
open Go Go.Abs Go.Proofs.Tryz
set_option maxRecDepth 100000
set_option maxHeartbeats 40000000
attribute [local irreducible] IntKind.wrap pEq
abbrev bv (x:AV) (a b c s e:Int):AV :=.agg [x,iv a,iv b,iv c,iv s,iv e]
/- The walk through a list for the first member that is so (IndexFunc, ContainsFunc): hp is what the closure tells. -/




end
end Go.Abs.Seat
namespace Go.Abs.Seat
noncomputable section
open Go Go.Abs Go.Proofs.Tryz
set_option maxRecDepth 100000
set_option maxHeartbeats 4000000

abbrev Lk :=Nat × Nat × Nat
abbrev LkI :=Int × Int × Int
def lks:List LkI → List AV
 | [] => []
 |x :: r => iv x.1 :: iv x.2.1 :: iv x.2.2 :: lks r
abbrev lkA (L:List LkI):AV :=.lst (lks L) L.length .no
theorem lks_len:∀ L,(lks L).length = L.length * 3
 | [] => rfl
 | _ :: r => by simp only [lks,List.length_cons,lks_len r];omega
theorem lks_no:∀ L,Lives noL (lks L)
 | [] => trivial
 | _ :: r => ⟨trivial,trivial,trivial,lks_no r⟩
theorem lkA_no (L:List LkI):Live noL (lkA L) :=⟨lks_no L,fun _ h => nomatch h⟩
end
end Go.Abs.Seat
/-! The path to an arbor: how far it is, its train. -/
namespace Go.Abs.Seat
noncomputable section
open Go Go.Abs Go.Proofs.Tryz
set_option maxRecDepth 100000
set_option maxHeartbeats 40000000
attribute [local irreducible] IntKind.wrap pEq
section
variable {N:List Lk} {i b:Nat}
end
end
end Go.Abs.Seat

namespace Go.Abs.Seat
noncomputable section
open Go Go.Abs Go.Proofs.Tryz
set_option maxRecDepth 100000
set_option maxHeartbeats 40000000
attribute [local irreducible] IntKind.wrap pEq pSlice
def LL (v:AV) (L:List LkI):Prop :=v = .nils ∧ L = [] ∨ v = lkA L
end
end Go.Abs.Seat
