/-
  The document's rules; numbers of teeth; the sense.
-/
import Derived.Test.YtnimgfkggbnjoaaGreatDoorXU7
import Derived.Test.YtnimgfkggbnjoaaGreatDoorXU4
import Derived.Test.YtnimgfkggbnjoaaGreatDoorXT24
import Derived.Laws.CopyRow
namespace Go.Abs.Seat
noncomputable section
open Go Go.Abs Go.Proofs.Tryz
set_option maxRecDepth 100000
set_option maxHeartbeats 40000000
attribute [local irreducible] IntKind.wrap pEq
theorem qje {N:AV} {l:List Int} (h:IL N l) (hl:l.length < 4611686018427387904) (a b p s:Int) {r:Bool} (hr:r = true ↔ rOk a b p s l) :
  Pure prog 10 [rv a b p s N] (.bool r) :=by
 have lv :=h.no
 have nx:¬ rOk a b p s l → r = false :=fun k => qwk hr k
 rcases h with ⟨rfl,rfl⟩ | rfl
 ·refine qbg hE rfl (by repeat' first|exact trivial|assumption|exact qa3 _|exact fun _ h => nomatch h|apply And.intro) (by repeat' first|exact trivial|assumption|exact qa3 _|exact fun _ h => nomatch h|apply And.intro) fun S q pc hS hq hC hE => ?_
  conv => whnf
  refine qa6 hE hS ?_
  conv => whnf
  refine qav hC (qc2 a) ?_
  conv => whnf
  by_cases h1:tth a
  ·rw [decide_eq_true h1]
   conv => whnf
   refine qav hC (qc2 b) ?_
   conv => whnf
   by_cases h2:tth b
   ·rw [decide_eq_true h2]
    conv => whnf
    by_cases h3:a ≤ b
    ·rw [decide_eq_true h3]
     conv => whnf
     refine qav hC (qf5 p 1 3) ?_
     conv => whnf
     by_cases h4:1 ≤ p ∧ p ≤ 3
     ·rw [decide_eq_true h4]
      conv => whnf
      by_cases h5:1 ≤ s
      ·rw [show decide (s ≥ 1) = true from decide_eq_true h5]
       conv => whnf
       by_cases h6:s ≤ 3
       ·rw [decide_eq_true h6]
        conv => whnf
        rw [hr.2 ⟨h1,h2,h3,h4,⟨h5,h6⟩,by decide,fun _ h => absurd h (Nat.not_lt_zero _)⟩]
        exact ⟨_,rfl,Wk.refl _⟩
       ·rw [decide_eq_false h6]
        conv => whnf
        rw [nx fun k => h6 k.2.2.2.2.1.2]
        exact ⟨_,rfl,Wk.refl _⟩
      ·rw [show decide (s ≥ 1) = false from decide_eq_false h5]
       conv => whnf
       rw [nx fun k => h5 k.2.2.2.2.1.1]
       exact ⟨_,rfl,Wk.refl _⟩
     ·rw [decide_eq_false h4]
      conv => whnf
      rw [nx fun k => h4 k.2.2.2.1]
      exact ⟨_,rfl,Wk.refl _⟩
    ·rw [decide_eq_false h3]
     conv => whnf
     rw [nx fun k => h3 k.2.2.1]
     exact ⟨_,rfl,Wk.refl _⟩
   ·rw [decide_eq_false h2]
    conv => whnf
    rw [nx fun k => h2 k.2.1]
    exact ⟨_,rfl,Wk.refl _⟩
  ·rw [decide_eq_false h1]
   conv => whnf
   rw [nx fun k => h1 k.1]
   exact ⟨_,rfl,Wk.refl _⟩
 ·have ll :=qby l
  refine qbg hE rfl (by repeat' first|exact trivial|assumption|exact qa3 _|exact fun _ h => nomatch h|apply And.intro) (by repeat' first|exact trivial|assumption|exact qa3 _|exact fun _ h => nomatch h|apply And.intro) fun S q pc hS hq hC hE => ?_
  conv => whnf
  refine qj0 hE hS (A :=Nat) [1] (fun i => [(3,nv i)]) (fun _ => []) (fun i => i ≤ l.length ∧ ∀ j,j < i → tth (gi l j)) (fun i => l.length - i) 0 rfl rfl (by refine ⟨rfl,rfl,rfl,rfl,?_,?_⟩ <;> repeat' (first|exact trivial|exact rfl|exact Nat.zero_le _|exact kle rfl|exact qc1 (by assumption)|exact qc1 (qa3 _)|exact qc1 (qby _)|exact mxI rfl|apply And.intro)) ⟨Nat.zero_le _,fun _ h => absurd h (Nat.not_lt_zero _)⟩ ?_
  intro i ⟨hi,hT⟩
  conv => whnf
  by_cases h:i < l.length
  ·rw [show decide (Int.ofNat i < ↑l.length) = true from qbk h]
   conv => whnf
   refine qax (qbf (i :=i) (n :=l.length) h) ?_
   conv => whnf
   refine qa2 (nthP (qbq (l :=l) (i :=i) h)) ?_
   conv => whnf
   refine qav hC (qc2 (gi l i)) ?_
   conv => whnf
   by_cases h1:tth (gi l i)
   ·rw [decide_eq_true h1]
    conv => whnf
    rw [show IntKind.i64.wrap (Int.ofNat i + 1) = Int.ofNat (i + 1) from qbr (m :=i + 1) (by omega)]
    exact ⟨i + 1,⟨h,upto hT h1⟩,by omega,(by refine ⟨rfl,rfl,rfl,rfl,?_,?_⟩ <;> repeat' (first|exact trivial|exact rfl|exact Nat.zero_le _|exact kle rfl|exact qc1 (by assumption)|exact qc1 (qa3 _)|exact qc1 (qby _)|exact mxI rfl|apply And.intro))⟩
   ·rw [decide_eq_false h1]
    conv => whnf
    rw [nx fun k => h1 (k.2.2.2.2.2.2 i h)]
    exact ⟨_,rfl,Wk.refl _⟩
  ·rw [show decide (Int.ofNat i < ↑l.length) = false from qb9 h]
   conv => whnf
   have hi0:i = l.length :=by omega
   refine qav hC (qc2 a) ?_
   conv => whnf
   by_cases h1:tth a
   ·rw [decide_eq_true h1]
    conv => whnf
    refine qav hC (qc2 b) ?_
    conv => whnf
    by_cases h2:tth b
    ·rw [decide_eq_true h2]
     conv => whnf
     by_cases h3:a ≤ b
     ·rw [decide_eq_true h3]
      conv => whnf
      refine qav hC (qf5 p 1 3) ?_
      conv => whnf
      by_cases h4:1 ≤ p ∧ p ≤ 3
      ·rw [decide_eq_true h4]
       conv => whnf
       by_cases h5:1 ≤ s
       ·rw [show decide (s ≥ 1) = true from decide_eq_true h5]
        conv => whnf
        by_cases h6:s ≤ 3
        ·rw [decide_eq_true h6]
         conv => whnf
         refine ⟨_,rfl,wkb ?_⟩
         by_cases h7:l.length ≤ 6
         ·rw [hr.2 ⟨h1,h2,h3,h4,⟨h5,h6⟩,h7,fun j hj => hT j (by omega)⟩]
          exact decide_eq_true (show (l.length:Int) ≤ 6 by omega)
         ·rw [nx fun k => h7 k.2.2.2.2.2.1]
          exact decide_eq_false (show ¬ (l.length:Int) ≤ 6 by omega)
        ·rw [decide_eq_false h6]
         conv => whnf
         rw [nx fun k => h6 k.2.2.2.2.1.2]
         exact ⟨_,rfl,Wk.refl _⟩
       ·rw [show decide (s ≥ 1) = false from decide_eq_false h5]
        conv => whnf
        rw [nx fun k => h5 k.2.2.2.2.1.1]
        exact ⟨_,rfl,Wk.refl _⟩
      ·rw [decide_eq_false h4]
       conv => whnf
       rw [nx fun k => h4 k.2.2.2.1]
       exact ⟨_,rfl,Wk.refl _⟩
     ·rw [decide_eq_false h3]
      conv => whnf
      rw [nx fun k => h3 k.2.2.1]
      exact ⟨_,rfl,Wk.refl _⟩
    ·rw [decide_eq_false h2]
     conv => whnf
     rw [nx fun k => h2 k.2.1]
     exact ⟨_,rfl,Wk.refl _⟩
   ·rw [decide_eq_false h1]
    conv => whnf
    rw [nx fun k => h1 k.1]
    exact ⟨_,rfl,Wk.refl _⟩
end
end Go.Abs.Seat
namespace Go.Abs.Seat
open Go Go.Abs
set_option maxRecDepth 100000

end Go.Abs.Seat
/-! Trains of a rule: the parts. -/
namespace Go.Abs.Seat
noncomputable section
open Go Go.Abs Go.Proofs.Tryz
set_option maxRecDepth 100000
set_option maxHeartbeats 40000000
section
attribute [local irreducible] IntKind.wrap pEq
theorem IL.cs {N:AV} {l:List Int} (h:IL N l):N = .nils ∨ N = nl l :=by
 rcases h with ⟨e,_⟩ | e
 ·exact .inl e
 ·exact .inr e
end
section
attribute [local irreducible] pEq
end
end
end Go.Abs.Seat

namespace Go.Abs.Seat
noncomputable section
open Go Go.Abs Go.Proofs.Tryz
set_option maxRecDepth 100000
set_option maxHeartbeats 40000000
attribute [local irreducible] IntKind.wrap pEq
def cutP (a b:Int) (l:List Int) (x:Int):Prop :=¬ x ∈ l ∧ a ≤ x ∧ x ≤ b
instance (a b l x):Decidable (cutP a b l x) :=by unfold cutP;infer_instance
end
end Go.Abs.Seat
namespace Go.Abs.Seat
def ltQ (p q:Nat × Nat):Prop :=p.1 < q.1 ∨ p.1 = q.1 ∧ p.2 < q.2
instance (p q):Decidable (ltQ p q) :=by unfold ltQ;infer_instance
theorem qxr (p):¬ ltQ p p :=by unfold ltQ;omega
theorem qr5 {p q r} (h:ltQ p q) (k:ltQ q r):ltQ p r :=by unfold ltQ at *;omega
theorem qxq (p q:Nat × Nat):ltQ p q ∨ p = q ∨ ltQ q p :=by
 obtain ⟨a,b⟩ :=p
 obtain ⟨c,d⟩ :=q
 unfold ltQ
 simp only [Prod.mk.injEq]
 omega
def ltL:List (Nat × Nat) → List (Nat × Nat) → Prop
 |p :: r,q :: s => ltQ p q ∨ p = q ∧ ltL r s
 | _,_ => False
theorem qr6:∀ {a b:List (Nat × Nat)},a.length = b.length → ltL a b ∨ a = b ∨ ltL b a
 | [],[],_ => .inr (.inl rfl)
 |p :: r,q :: s,h => by
  rcases qxq p q with k | rfl | k
  ·exact .inl (.inl k)
  ·rcases qr6 (a :=r) (b :=s) (by simpa using h) with k | rfl | k
   ·exact .inl (.inr ⟨rfl,k⟩)
   ·exact .inr (.inl rfl)
   ·exact .inr (.inr (.inr ⟨rfl,k⟩))
  ·exact .inr (.inr (.inl k))
 | [],_ :: _,h => by cases h
 | _ :: _,[],h => by cases h
def qq8 (p:Nat → Prop):Nat → Nat → Prop
 | 0,x => x = 1
 |k + 1,x => ∃ y n,qq8 p k y ∧ p n ∧ x = y * n
def gn (l:List Nat) (i:Nat):Nat :=l.getD i 0
theorem ql9 (l:List Nat) {i:Nat} (h:i < l.length):l.take (i + 1) = l.take i ++ [gn l i] :=by
 rw [List.take_succ_eq_append_getElem h]
 simp [gn,List.getD,h]
def Srt (l:List Nat):Prop :=∀ i j,i < j → j < l.length → gn l i < gn l j
theorem Srt.le {l:List Nat} (h:Srt l) {i j:Nat} (hij:i ≤ j) (hj:j < l.length):gn l i ≤ gn l j :=by
 by_cases e:i = j
 ·subst e;exact Nat.le_refl _
 ·exact Nat.le_of_lt (h i j (by omega) hj)
def gp (a b:Nat):Nat :=(a - b) + (b - a)
def dQ (N D:Nat) (q:Nat × Nat):Nat × Nat :=(gp (q.1 * D) (N * q.2),q.2)
def fle (e e':Nat × Nat):Prop :=e.1 * e'.2 ≤ e'.1 * e.2
instance (e e'):Decidable (fle e e') :=by unfold fle;infer_instance
theorem qm9 (e:Nat × Nat):fle e e :=Nat.le_refl _
theorem qxz (e f:Nat × Nat):fle e f ∨ fle f e :=Nat.le_total _ _
theorem qo0 {a b c:Nat × Nat} (hb:1 ≤ b.2) (h:fle a b) (k:fle b c):fle a c :=by
 unfold fle at *
 have h1 :=Nat.mul_le_mul_right c.2 h
 have h2 :=Nat.mul_le_mul_right a.2 k
 have e1:a.1 * b.2 * c.2 = b.2 * (a.1 * c.2) :=by ac_rfl
 have e2:b.1 * a.2 * c.2 = b.1 * c.2 * a.2 :=by ac_rfl
 have e3:c.1 * b.2 * a.2 = b.2 * (c.1 * a.2) :=by ac_rfl
 rw [e1,e2] at h1
 rw [e3] at h2
 exact Nat.le_of_mul_le_mul_left (Nat.le_trans h1 h2) hb
abbrev NS :=List (Nat × Nat) × (Nat × Nat)
def cand (N D:Nat) (s:NS) (q:Nat × Nat):NS :=
 if s.1 = [] ∨ (dQ N D q).1 * s.2.2 < s.2.1 * (dQ N D q).2 then ([q],dQ N D q)
 else if (dQ N D q).1 * s.2.2 = s.2.1 * (dQ N D q).2 ∧ q ∉ s.1 then (s.1 ++ [q],s.2) else s
structure CInv (N D:Nat) (L:List (Nat × Nat)) (s:NS):Prop where
 lp:∀ q,q ∈ L → 1 ≤ q.2
 nil:s.1 = [] ↔ L = []
 mem:∀ q,q ∈ s.1 → q ∈ L ∧ fle (dQ N D q) s.2 ∧ fle s.2 (dQ N D q)
 all:∀ q,q ∈ L → fle s.2 (dQ N D q) ∧ (fle (dQ N D q) s.2 → q ∈ s.1)
 pos:s.1 ≠ [] → 1 ≤ s.2.2
theorem CInv.step {N D:Nat} {L:List (Nat × Nat)} {s:NS} (h:CInv N D L s) {q:Nat × Nat} (hq:1 ≤ q.2):CInv N D (L ++ [q]) (cand N D s q) :=by
 have hlp:∀ p,p ∈ L ++ [q] → 1 ≤ p.2 :=fun p hp => by
  rw [List.mem_append,List.mem_singleton] at hp
  rcases hp with hp | rfl
  ·exact h.lp p hp
  ·exact hq
 unfold cand
 split
 ·rename_i hc
  refine ⟨hlp,⟨fun e => (by cases e),fun e => (by simp at e)⟩,fun p hp => ?_,fun p hp => ?_,fun _ => hq⟩
  ·rw [List.mem_singleton] at hp
   subst hp
   exact ⟨by simp,qm9 _,qm9 _⟩
  ·rw [List.mem_append,List.mem_singleton] at hp
   rcases hp with hp | rfl
   ·have hs:s.1 ≠ [] :=fun e => by rw [h.nil.1 e] at hp;cases hp
    have hlt :=hc.resolve_left hs
    have h1 :=h.all p hp
    have h2:fle (dQ N D q) s.2 :=Nat.le_of_lt hlt
    exact ⟨qo0 (h.pos hs) h2 h1.1,fun k => absurd (qo0 (b :=dQ N D p) (h.lp p hp) h1.1 k) (Nat.not_le.2 hlt)⟩
   ·exact ⟨qm9 _,fun _ => (by simp)⟩
 ·rename_i hc
  have hs:s.1 ≠ [] :=fun e => hc (.inl e)
  have hle:fle s.2 (dQ N D q) :=Nat.not_lt.1 fun e => hc (.inr e)
  have hL:L ≠ [] :=fun e => hs (h.nil.2 e)
  split
  ·rename_i he
   have he1:fle (dQ N D q) s.2 :=Nat.le_of_eq he.1
   refine ⟨hlp,⟨fun e => (by simp at e),fun e => (by simp at e)⟩,fun p hp => ?_,fun p hp => ?_,fun _ => h.pos hs⟩
   ·rw [List.mem_append,List.mem_singleton] at hp
    rcases hp with hp | rfl
    ·exact ⟨List.mem_append_left _ (h.mem p hp).1,(h.mem p hp).2⟩
    ·exact ⟨by simp,he1,hle⟩
   ·rw [List.mem_append,List.mem_singleton] at hp
    rcases hp with hp | rfl
    ·exact ⟨(h.all p hp).1,fun k => List.mem_append_left _ ((h.all p hp).2 k)⟩
    ·exact ⟨hle,fun _ => (by simp)⟩
  ·rename_i he
   refine ⟨hlp,⟨fun e => absurd e hs,fun e => (by simp at e)⟩,fun p hp => ⟨List.mem_append_left _ (h.mem p hp).1,(h.mem p hp).2⟩,fun p hp => ?_,h.pos⟩
   rw [List.mem_append,List.mem_singleton] at hp
   rcases hp with hp | rfl
   ·exact h.all p hp
   ·refine ⟨hle,fun k => ?_⟩
    apply Classical.byContradiction
    intro hn
    exact he ⟨Nat.le_antisymm k hle,hn⟩
end Go.Abs.Seat
