/-
  Books of accounts: what must be paid, as the document says.
-/
import Derived.Test.YtlmadgdonalncaaGreatDoorB54
namespace Go.Abs.Seat
noncomputable section
open Go Go.Abs Go.Proofs.Tryz
set_option maxRecDepth 100000
set_option maxHeartbeats 40000000
attribute [local irreducible] IntKind.wrap pEq
structure DInv (b:List Int) (E X:List LkI) (lf:List Int) (t1 t2 t3:Tr AV) (o:Nat):Prop where
 s:SInv b E X lf t1 t2 o
 c3:∀ j,t3.get j = if j < E.length then some (.bool (decide ((gL X j).2.2 ≠ 0))) else none
theorem DInv.bd {b:List Int} {E X:List LkI} {lf:List Int} {t1 t2 t3:Tr AV} {o n:Nat} (h:DInv b E X lf t1 t2 t3 o):BdT n t3 :=qm4 fun j a e => by
 rw [h.c3] at e
 split at e
 ·cases e;exact Nat.zero_le _
 ·cases e
end
end Go.Abs.Seat
