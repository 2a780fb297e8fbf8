/-
  Books of accounts: what must be paid, as the document says.
-/
import Derived.Test.YtlmadgdonalncaaGreatDoorB54
/-! Books of accounts: what must be paid, as the document says. -/
namespace Go.Abs.Seat
noncomputable section
open Go Go.Abs Go.Proofs.Tryz
set_option maxRecDepth 100000
set_option maxHeartbeats 40000000
attribute [local irreducible] IntKind.wrap pEq
structure DInv (b : List Int) (E X : List LkI) (lf : List Int) (t1 t2 t3 : Tr AV) (o : Nat) : Prop where
 s : SInv b E X lf t1 t2 o
 c3 : ∀ j, t3.get j = if j < E.length then some (.bool (decide ((gL X j).2.2 ≠ 0))) else none
theorem DInv.bd {b : List Int} {E X : List LkI} {lf : List Int} {t1 t2 t3 : Tr AV} {o n : Nat} (h : DInv b E X lf t1 t2 t3 o) : BdT n t3 := bdT_get fun j a e => by
 rw [h.c3] at e
 split at e
 ·cases e; exact Nat.zero_le _
 ·cases e
theorem DInv.don {b : List Int} {E X : List LkI} {lf : List Int} {t1 t2 t3 : Tr AV} {o : Nat} (h : DInv b E X lf t1 t2 t3 o) {i : Nat} (hi : i < E.length) : t3.get (0 + i * 1) = some (.bool (decide ((gL X i).2.2 ≠ 0))) := by
 rw [show 0 + i * 1 = i by omega, h.c3, if_pos hi]
theorem DInv.pay {b : List Int} {E X : List LkI} {lf : List Int} {t1 t2 t3 : Tr AV} {o : Nat} (h : DInv b E X lf t1 t2 t3 o) {p : Nat} (hp : p < E.length) {y : LkI} (hy : y.2.2 ≠ 0) {lf' : List Int} {t1' t2' : Tr AV} {o' : Nat} (h' : SInv b E (X.set p y) lf' t1' t2' o') : DInv b E (X.set p y) lf' t1' t2' (tset (pathOf (0 + p * 1)) t3 (.bool true)) o' := by
 refine ⟨h', fun j => ?_⟩
 have hpX : p < X.length := by rw [h.s.inv.ft.1]; exact hp
 rw [tset_at (h.don hp), gL_set X y hpX, show 0 + p * 1 = p by omega]
 by_cases e : j = p
 ·rw [if_pos e, if_pos (by omega), if_pos e, decide_eq_true hy]
 ·rw [if_neg e, if_neg e, h.c3]
--STUB--
end
end Go.Abs.Seat
