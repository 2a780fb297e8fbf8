/-
  The document's products of teeth.
-/
import Derived.Test.YtcnidgafdonioaaGreatVU8
import Derived.Test.YtcnidgafdonioaaGreatVU4
namespace Go.Abs.Seat
noncomputable section
open Go Go.Abs Go.Proofs.Tryz
set_option maxRecDepth 100000
set_option maxHeartbeats 40000000
attribute [local irreducible] IntKind.wrap pEq
def bq (p:Prop):Bool :=@decide p (Classical.propDecidable p)
theorem bq_t {p:Prop} (h:p):bq p = true :=@decide_eq_true p (Classical.propDecidable p) h
theorem bq_f {p:Prop} (h:¬ p):bq p = false :=@decide_eq_false p (Classical.propDecidable p) h
theorem bq_eq {p q:Prop} (h:p ↔ q):bq p = bq q :=by
 by_cases k:p
 ·rw [bq_t k,bq_t (h.1 k)]
 ·rw [bq_f k,bq_f fun e => k (h.2 e)]
def Mk (t:Tr AV) (m:Nat) (q:Nat → Prop):Prop :=∀ j,t.get j = if j < m then some (.bool (bq (q j))) else none
theorem Mk.at {t:Tr AV} {m:Nat} {q:Nat → Prop} (h:Mk t m q) {x:Nat} (hx:x < m):t.get x = some (.bool (bq (q x))) :=by rw [h x,if_pos hx]
theorem Mk.ext {t:Tr AV} {m:Nat} {q r:Nat → Prop} (h:Mk t m q) (e:∀ x,x < m → (q x ↔ r x)):Mk t m r :=fun x => by
 rw [h x]
 by_cases hx:x < m
 ·rw [if_pos hx,if_pos hx,bq_eq (e x hx)]
 ·rw [if_neg hx,if_neg hx]
theorem Mk.bd {t:Tr AV} {m n:Nat} {q:Nat → Prop} (h:Mk t m q):BdT n t :=bdT_get fun j a e => by
 rw [h j] at e
 split at e
 ·cases e;exact Nat.zero_le _
 ·cases e
def tp (a b:Nat) (l:List Int) (n:Nat):Prop :=cutP (Int.ofNat a) (Int.ofNat b) l (Int.ofNat n)
theorem gi_zl (l:List Nat) {i:Nat} (h:i < l.length):gi (zl l) i = Int.ofNat (gn l i) :=by
 simp [gi,gn,zl,List.getD,h]
end
end Go.Abs.Seat
