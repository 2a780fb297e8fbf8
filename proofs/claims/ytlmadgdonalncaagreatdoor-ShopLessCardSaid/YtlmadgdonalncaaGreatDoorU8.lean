/-
  The document's rules; numbers of teeth; the sense.
-/
import Derived.Test.YtlmadgdonalncaaGreatDoorU7
import Derived.Test.YtlmadgdonalncaaGreatDoorU4
import Derived.Test.YtlmadgdonalncaaGreatDoorT24
import Derived.Laws.CopyRow
namespace Go.Abs.Seat
noncomputable section
open Go Go.Abs Go.Proofs.Tryz
set_option maxRecDepth 100000
set_option maxHeartbeats 40000000
attribute [local irreducible] IntKind.wrap pEq

end
end Go.Abs.Seat
namespace Go.Abs.Seat
open Go Go.Abs
set_option maxRecDepth 100000
theorem qr7 {a b:Int}:ordI a b < 0 ↔ a < b :=by
 unfold ordI;split
 ·exact ⟨fun _ => by assumption,fun _ => by omega⟩
 ·split <;> exact ⟨fun _ => by omega,fun _ => by omega⟩
end Go.Abs.Seat
/-! Trains of a rule: the parts. -/
namespace Go.Abs.Seat
noncomputable section
open Go Go.Abs Go.Proofs.Tryz
set_option maxRecDepth 100000
set_option maxHeartbeats 40000000
section
attribute [local irreducible] IntKind.wrap pEq
theorem IL.cs {N:AV} {l:List Int} (h:IL N l):N = .nils ∨ N = nl l :=by
 rcases h with ⟨e,_⟩ | e
 ·exact .inl e
 ·exact .inr e
end
section
attribute [local irreducible] pEq
end
end
end Go.Abs.Seat

namespace Go.Abs.Seat
noncomputable section
open Go Go.Abs Go.Proofs.Tryz
set_option maxRecDepth 100000
set_option maxHeartbeats 40000000
attribute [local irreducible] IntKind.wrap pEq
def cutP (a b:Int) (l:List Int) (x:Int):Prop :=¬ x ∈ l ∧ a ≤ x ∧ x ≤ b
instance (a b l x):Decidable (cutP a b l x) :=by unfold cutP;infer_instance
end
end Go.Abs.Seat
namespace Go.Abs.Seat
def ltQ (p q:Nat × Nat):Prop :=p.1 < q.1 ∨ p.1 = q.1 ∧ p.2 < q.2
instance (p q):Decidable (ltQ p q) :=by unfold ltQ;infer_instance
theorem qx3 (p):¬ ltQ p p :=by unfold ltQ;omega
theorem qsi {p q r} (h:ltQ p q) (k:ltQ q r):ltQ p r :=by unfold ltQ at *;omega
theorem qx2 (p q:Nat × Nat):ltQ p q ∨ p = q ∨ ltQ q p :=by
 obtain ⟨a,b⟩ :=p
 obtain ⟨c,d⟩ :=q
 unfold ltQ
 simp only [Prod.mk.injEq]
 omega
def ltL:List (Nat × Nat) → List (Nat × Nat) → Prop
 |p :: r,q :: s => ltQ p q ∨ p = q ∧ ltL r s
 | _,_ => False
theorem qsl:∀ {a b:List (Nat × Nat)},a.length = b.length → ltL a b ∨ a = b ∨ ltL b a
 | [],[],_ => .inr (.inl rfl)
 |p :: r,q :: s,h => by
  rcases qx2 p q with k | rfl | k
  ·exact .inl (.inl k)
  ·rcases qsl (a :=r) (b :=s) (by simpa using h) with k | rfl | k
   ·exact .inl (.inr ⟨rfl,k⟩)
   ·exact .inr (.inl rfl)
   ·exact .inr (.inr (.inr ⟨rfl,k⟩))
  ·exact .inr (.inr (.inl k))
 | [],_ :: _,h => by cases h
 | _ :: _,[],h => by cases h
def qrj (p:Nat → Prop):Nat → Nat → Prop
 | 0,x => x = 1
 |k + 1,x => ∃ y n,qrj p k y ∧ p n ∧ x = y * n
def gn (l:List Nat) (i:Nat):Nat :=l.getD i 0
theorem qw7 (l:List Nat) {i:Nat} (h:i < l.length):l.take (i + 1) = l.take i ++ [gn l i] :=by
 rw [List.take_succ_eq_append_getElem h]
 simp [gn,List.getD,h]
theorem qpb (l:List Nat) {i:Nat} (h:i < l.length):gn l i ∈ l :=by
 have e:gn l i = l[i] :=by simp [gn,List.getD,h]
 rw [e];exact List.getElem_mem h
def Srt (l:List Nat):Prop :=∀ i j,i < j → j < l.length → gn l i < gn l j
theorem Srt.le {l:List Nat} (h:Srt l) {i j:Nat} (hij:i ≤ j) (hj:j < l.length):gn l i ≤ gn l j :=by
 by_cases e:i = j
 ·subst e;exact Nat.le_refl _
 ·exact Nat.le_of_lt (h i j (by omega) hj)
def gp (a b:Nat):Nat :=(a - b) + (b - a)
def dQ (N D:Nat) (q:Nat × Nat):Nat × Nat :=(gp (q.1 * D) (N * q.2),q.2)
def fle (e e':Nat × Nat):Prop :=e.1 * e'.2 ≤ e'.1 * e.2
instance (e e'):Decidable (fle e e') :=by unfold fle;infer_instance
theorem qnb (e:Nat × Nat):fle e e :=Nat.le_refl _
theorem qyf (e f:Nat × Nat):fle e f ∨ fle f e :=Nat.le_total _ _
theorem qpf {a b c:Nat × Nat} (hb:1 ≤ b.2) (h:fle a b) (k:fle b c):fle a c :=by
 unfold fle at *
 have h1 :=Nat.mul_le_mul_right c.2 h
 have h2 :=Nat.mul_le_mul_right a.2 k
 have e1:a.1 * b.2 * c.2 = b.2 * (a.1 * c.2) :=by ac_rfl
 have e2:b.1 * a.2 * c.2 = b.1 * c.2 * a.2 :=by ac_rfl
 have e3:c.1 * b.2 * a.2 = b.2 * (c.1 * a.2) :=by ac_rfl
 rw [e1,e2] at h1
 rw [e3] at h2
 exact Nat.le_of_mul_le_mul_left (Nat.le_trans h1 h2) hb
abbrev NS :=List (Nat × Nat) × (Nat × Nat)
def cand (N D:Nat) (s:NS) (q:Nat × Nat):NS :=
 if s.1 = [] ∨ (dQ N D q).1 * s.2.2 < s.2.1 * (dQ N D q).2 then ([q],dQ N D q)
 else if (dQ N D q).1 * s.2.2 = s.2.1 * (dQ N D q).2 ∧ q ∉ s.1 then (s.1 ++ [q],s.2) else s
structure CInv (N D:Nat) (L:List (Nat × Nat)) (s:NS):Prop where
 lp:∀ q,q ∈ L → 1 ≤ q.2
 nil:s.1 = [] ↔ L = []
 mem:∀ q,q ∈ s.1 → q ∈ L ∧ fle (dQ N D q) s.2 ∧ fle s.2 (dQ N D q)
 all:∀ q,q ∈ L → fle s.2 (dQ N D q) ∧ (fle (dQ N D q) s.2 → q ∈ s.1)
 pos:s.1 ≠ [] → 1 ≤ s.2.2
theorem CInv.step {N D:Nat} {L:List (Nat × Nat)} {s:NS} (h:CInv N D L s) {q:Nat × Nat} (hq:1 ≤ q.2):CInv N D (L ++ [q]) (cand N D s q) :=by
 have hlp:∀ p,p ∈ L ++ [q] → 1 ≤ p.2 :=fun p hp => by
  rw [List.mem_append,List.mem_singleton] at hp
  rcases hp with hp | rfl
  ·exact h.lp p hp
  ·exact hq
 unfold cand
 split
 ·rename_i hc
  refine ⟨hlp,⟨fun e => (by cases e),fun e => (by simp at e)⟩,fun p hp => ?_,fun p hp => ?_,fun _ => hq⟩
  ·rw [List.mem_singleton] at hp
   subst hp
   exact ⟨by simp,qnb _,qnb _⟩
  ·rw [List.mem_append,List.mem_singleton] at hp
   rcases hp with hp | rfl
   ·have hs:s.1 ≠ [] :=fun e => by rw [h.nil.1 e] at hp;cases hp
    have hlt :=hc.resolve_left hs
    have h1 :=h.all p hp
    have h2:fle (dQ N D q) s.2 :=Nat.le_of_lt hlt
    exact ⟨qpf (h.pos hs) h2 h1.1,fun k => absurd (qpf (b :=dQ N D p) (h.lp p hp) h1.1 k) (Nat.not_le.2 hlt)⟩
   ·exact ⟨qnb _,fun _ => (by simp)⟩
 ·rename_i hc
  have hs:s.1 ≠ [] :=fun e => hc (.inl e)
  have hle:fle s.2 (dQ N D q) :=Nat.not_lt.1 fun e => hc (.inr e)
  have hL:L ≠ [] :=fun e => hs (h.nil.2 e)
  split
  ·rename_i he
   have he1:fle (dQ N D q) s.2 :=Nat.le_of_eq he.1
   refine ⟨hlp,⟨fun e => (by simp at e),fun e => (by simp at e)⟩,fun p hp => ?_,fun p hp => ?_,fun _ => h.pos hs⟩
   ·rw [List.mem_append,List.mem_singleton] at hp
    rcases hp with hp | rfl
    ·exact ⟨List.mem_append_left _ (h.mem p hp).1,(h.mem p hp).2⟩
    ·exact ⟨by simp,he1,hle⟩
   ·rw [List.mem_append,List.mem_singleton] at hp
    rcases hp with hp | rfl
    ·exact ⟨(h.all p hp).1,fun k => List.mem_append_left _ ((h.all p hp).2 k)⟩
    ·exact ⟨hle,fun _ => (by simp)⟩
  ·rename_i he
   refine ⟨hlp,⟨fun e => absurd e hs,fun e => (by simp at e)⟩,fun p hp => ⟨List.mem_append_left _ (h.mem p hp).1,(h.mem p hp).2⟩,fun p hp => ?_,h.pos⟩
   rw [List.mem_append,List.mem_singleton] at hp
   rcases hp with hp | rfl
   ·exact h.all p hp
   ·refine ⟨hle,fun k => ?_⟩
    apply Classical.byContradiction
    intro hn
    exact he ⟨Nat.le_antisymm k hle,hn⟩
end Go.Abs.Seat
