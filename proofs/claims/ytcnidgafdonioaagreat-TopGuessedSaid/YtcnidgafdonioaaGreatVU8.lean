/-
  The document's rules; numbers of teeth; the sense.
-/
import Derived.Test.YtcnidgafdonioaaGreatVU7
import Derived.Test.YtcnidgafdonioaaGreatVU4
import Derived.Test.YtcnidgafdonioaaGreatVT24
import Derived.Laws.CopyRow
namespace Go.Abs.Seat
noncomputable section
open Go Go.Abs Go.Proofs.Tryz
set_option maxRecDepth 100000
set_option maxHeartbeats 40000000
attribute [local irreducible] IntKind.wrap pEq

end
end Go.Abs.Seat
namespace Go.Abs.Seat
open Go Go.Abs
set_option maxRecDepth 100000

end Go.Abs.Seat
/-! Trains of a rule: the parts. -/
namespace Go.Abs.Seat
noncomputable section
open Go Go.Abs Go.Proofs.Tryz
set_option maxRecDepth 100000
set_option maxHeartbeats 40000000
section
attribute [local irreducible] IntKind.wrap pEq
theorem IL.cs {N:AV} {l:List Int} (h:IL N l):N = .nils ∨ N = nl l :=by
 rcases h with ⟨e,_⟩ | e
 ·exact .inl e
 ·exact .inr e
end
section
attribute [local irreducible] pEq
end
end
end Go.Abs.Seat

namespace Go.Abs.Seat
noncomputable section
open Go Go.Abs Go.Proofs.Tryz
set_option maxRecDepth 100000
set_option maxHeartbeats 40000000
attribute [local irreducible] IntKind.wrap pEq
def cutP (a b:Int) (l:List Int) (x:Int):Prop :=¬ x ∈ l ∧ a ≤ x ∧ x ≤ b
instance (a b l x):Decidable (cutP a b l x) :=by unfold cutP;infer_instance
end
end Go.Abs.Seat
namespace Go.Abs.Seat
def ltQ (p q:Nat × Nat):Prop :=p.1 < q.1 ∨ p.1 = q.1 ∧ p.2 < q.2
instance (p q):Decidable (ltQ p q) :=by unfold ltQ;infer_instance
theorem ltQ_irr (p):¬ ltQ p p :=by unfold ltQ;omega
theorem ltQ_trans {p q r} (h:ltQ p q) (k:ltQ q r):ltQ p r :=by unfold ltQ at *;omega
theorem ltQ_tri (p q:Nat × Nat):ltQ p q ∨ p = q ∨ ltQ q p :=by
 obtain ⟨a,b⟩ :=p
 obtain ⟨c,d⟩ :=q
 unfold ltQ
 simp only [Prod.mk.injEq]
 omega
def ltL:List (Nat × Nat) → List (Nat × Nat) → Prop
 |p :: r,q :: s => ltQ p q ∨ p = q ∧ ltL r s
 | _,_ => False
theorem ltL_trans:∀ {a b c:List (Nat × Nat)},ltL a b → ltL b c → ltL a c
 |p :: r,q :: s,o :: t,h,k => by
  rcases h with h | ⟨rfl,h⟩
  ·rcases k with k | ⟨rfl,_⟩
   ·exact .inl (ltQ_trans h k)
   ·exact .inl h
  ·rcases k with k | ⟨rfl,k⟩
   ·exact .inl k
   ·exact .inr ⟨rfl,ltL_trans h k⟩
 | [],_,_,h,_ => by simp [ltL] at h
 | _ :: _,[],_,h,_ => by simp [ltL] at h
 | _ :: _,_ :: _,[],_,k => by simp [ltL] at k
theorem ltL_tri:∀ {a b:List (Nat × Nat)},a.length = b.length → ltL a b ∨ a = b ∨ ltL b a
 | [],[],_ => .inr (.inl rfl)
 |p :: r,q :: s,h => by
  rcases ltQ_tri p q with k | rfl | k
  ·exact .inl (.inl k)
  ·rcases ltL_tri (a :=r) (b :=s) (by simpa using h) with k | rfl | k
   ·exact .inl (.inr ⟨rfl,k⟩)
   ·exact .inr (.inl rfl)
   ·exact .inr (.inr (.inr ⟨rfl,k⟩))
  ·exact .inr (.inr (.inl k))
 | [],_ :: _,h => by cases h
 | _ :: _,[],h => by cases h
theorem ltL_irr:∀ a,¬ ltL a a
 | [],h => h
 |p :: r,h => by
  rcases h with h | ⟨_,h⟩
  ·exact ltQ_irr p h
  ·exact ltL_irr r h
def Vt (tp:Nat → Prop):Nat → Nat → Nat → Nat × Nat → List (Nat × Nat) → Prop
 | 0,X,Y,_,[] => X = 1 ∧ Y = 1
 | 0,_,_,_,_ :: _ => False
 | _ + 1,_,_,_,[] => False
 |k + 1,X,Y,f,p :: t => (tp p.1 ∧ tp p.2 ∧ ¬ ltQ p f) ∧ (X % p.1 = 0 ∧ Y % p.2 = 0) ∧ Vt tp k (X / p.1) (Y / p.2) p t
theorem Vt_len {tp:Nat → Prop}:∀ {k X Y:Nat} {f:Nat × Nat} {t:List (Nat × Nat)},Vt tp k X Y f t → t.length = k
 | 0,_,_,_,[],_ => rfl
 | 0,_,_,_,_ :: _,h => by simp [Vt] at h
 | _ + 1,_,_,_,[],h => by simp [Vt] at h
 |k + 1,_,_,_,p :: t,h => by
  rw [Vt] at h
  rw [List.length_cons,Vt_len h.2.2]
def Vmin (tp:Nat → Prop) (k X Y:Nat) (f:Nat × Nat) (t:List (Nat × Nat)):Prop :=Vt tp k X Y f t ∧ ∀ u,Vt tp k X Y f u → ¬ ltL u t
theorem Vmin_uniq {tp:Nat → Prop} {k X Y:Nat} {f:Nat × Nat} {t u:List (Nat × Nat)} (h:Vmin tp k X Y f t) (g:Vmin tp k X Y f u):t = u :=by
 rcases ltL_tri (a :=t) (b :=u) ((Vt_len h.1).trans (Vt_len g.1).symm) with e | e | e
 ·exact absurd e (g.2 t h.1)
 ·exact e
 ·exact absurd e (h.2 u g.1)
theorem least_pair {q:Nat × Nat → Prop} (hq:∀ p,q p → p.2 ≤ 60):∀ (n:Nat) (p:Nat × Nat),q p → p.1 * 61 + p.2 ≤ n → ∃ m,q m ∧ ∀ u,q u → ¬ ltQ u m :=by
 intro n
 induction n using Nat.strongRecOn with
 |ind n ih =>
  intro p hp hn
  by_cases h:∃ u,q u ∧ ltQ u p
  ·obtain ⟨u,h1,h2⟩ :=h
   have h3 :=hq u h1
   have:u.1 * 61 + u.2 < p.1 * 61 + p.2 :=by unfold ltQ at h2;omega
   exact ih (u.1 * 61 + u.2) (by omega) u h1 (Nat.le_refl _)
  ·exact ⟨p,hp,fun u h1 h2 => h ⟨u,h1,h2⟩⟩
theorem Vmin_ex {tp:Nat → Prop} (ht:∀ n,tp n → n ≤ 60):∀ {k X Y:Nat} {f:Nat × Nat} {t:List (Nat × Nat)},Vt tp k X Y f t → ∃ m,Vmin tp k X Y f m
 | 0,_,_,_,[],h => ⟨[],h,fun u _ k => by cases u <;> simp [ltL] at k⟩
 | 0,_,_,_,_ :: _,h => by simp [Vt] at h
 | _ + 1,_,_,_,[],h => by simp [Vt] at h
 |k + 1,X,Y,f,p :: t,h => by
  obtain ⟨m,⟨s,hm⟩,hmin⟩ :=least_pair (q :=fun p => ∃ s,Vt tp (k + 1) X Y f (p :: s)) (fun p ⟨s,h⟩ => by rw [Vt] at h;exact ht _ h.1.2.1) _ p ⟨t,h⟩ (Nat.le_refl _)
  have hm2 :=hm
  rw [Vt] at hm2
  obtain ⟨r,hr1,hr2⟩ :=Vmin_ex ht hm2.2.2
  refine ⟨m :: r,by rw [Vt];exact ⟨hm2.1,hm2.2.1,hr1⟩,fun u hu hlt => ?_⟩
  cases u with
  |nil => simp [Vt] at hu
  |cons q u =>
   rcases hlt with h1 | ⟨rfl,h1⟩
   ·exact hmin q ⟨u,hu⟩ h1
   ·rw [Vt] at hu
    exact hr2 u hu.2.2 h1
noncomputable def fstT (tp:Nat → Prop) (k X Y:Nat) (f:Nat × Nat):Option (List (Nat × Nat)) :=
 @dite _ (∃ t,Vmin tp k X Y f t) (Classical.propDecidable _) (fun h => some h.choose) (fun _ => none)
theorem fstT_some {tp:Nat → Prop} {k X Y:Nat} {f:Nat × Nat} {t:List (Nat × Nat)} (h:Vmin tp k X Y f t):fstT tp k X Y f = some t :=by
 unfold fstT
 rw [dif_pos ⟨t,h⟩,Vmin_uniq (Exists.choose_spec (⟨t,h⟩ : ∃ t,Vmin tp k X Y f t)) h]
def prodP (p:Nat → Prop):Nat → Nat → Prop
 | 0,x => x = 1
 |k + 1,x => ∃ y n,prodP p k y ∧ p n ∧ x = y * n
noncomputable def lstP (p:Nat → Prop):Nat → List Nat
 | 0 => []
 |n + 1 => @ite _ (p n) (Classical.propDecidable _) (lstP p n ++ [n]) (lstP p n)
theorem lstP_mem (p:Nat → Prop) (x:Nat):∀ n,x ∈ lstP p n ↔ x < n ∧ p x
 | 0 => ⟨fun h => (nomatch h),fun h => absurd h.1 (Nat.not_lt_zero _)⟩
 |n + 1 => by
  have ih :=lstP_mem p x n
  rw [lstP]
  split
  ·rename_i hp
   rw [List.mem_append,ih,List.mem_singleton]
   constructor
   ·rintro (⟨h1,h2⟩ | rfl)
    ·exact ⟨by omega,h2⟩
    ·exact ⟨by omega,hp⟩
   ·rintro ⟨h1,h2⟩
    by_cases e:x = n
    ·exact .inr e
    ·exact .inl ⟨by omega,h2⟩
  ·rename_i hp
   rw [ih]
   constructor
   ·rintro ⟨h1,h2⟩;exact ⟨by omega,h2⟩
   ·rintro ⟨h1,h2⟩
    exact ⟨by have:x ≠ n :=fun e => hp (e ▸ h2);omega,h2⟩
theorem prod_le {p:Nat → Prop} (hp:∀ n,p n → 1 ≤ n ∧ n ≤ 60):∀ (k x:Nat),prodP p k x → 1 ≤ x ∧ x ≤ 60 ^ k
 | 0,x,h => by rw [prodP] at h;subst h;exact ⟨Nat.le_refl _,Nat.le_refl _⟩
 |k + 1,x,h => by
  rw [prodP] at h
  obtain ⟨y,n,h1,h2,rfl⟩ :=h
  have h3 :=prod_le hp k y h1
  have h4 :=hp n h2
  refine ⟨Nat.mul_pos h3.1 h4.1,?_⟩
  rw [Nat.pow_succ]
  exact Nat.mul_le_mul h3.2 h4.2
def gn (l:List Nat) (i:Nat):Nat :=l.getD i 0
theorem gn_mem (l:List Nat) {i:Nat} (h:i < l.length):gn l i ∈ l :=by
 have e:gn l i = l[i] :=by simp [gn,List.getD,h]
 rw [e];exact List.getElem_mem h
theorem mem_gn {l:List Nat} {x:Nat} (h:x ∈ l):∃ i,i < l.length ∧ gn l i = x :=by
 obtain ⟨i,hi,e⟩ :=List.getElem_of_mem h
 exact ⟨i,hi,by simp [gn,List.getD,hi,e]⟩
theorem gn_app1 (l m:List Nat) {i:Nat} (h:i < l.length):gn (l ++ m) i = gn l i :=by
 simp [gn,List.getD,List.getElem?_append_left h]
theorem gn_app2 (l:List Nat) (x:Nat):gn (l ++ [x]) l.length = x :=by
 simp [gn,List.getD]
def Srt (l:List Nat):Prop :=∀ i j,i < j → j < l.length → gn l i < gn l j
theorem lstP_srt (p:Nat → Prop):∀ n,Srt (lstP p n)
 | 0 => fun i j _ h => absurd h (Nat.not_lt_zero _)
 |n + 1 => by
  have ih :=lstP_srt p n
  rw [lstP]
  split
  ·intro i j hij hj
   rw [List.length_append,List.length_singleton] at hj
   rw [gn_app1 _ _ (by omega)]
   by_cases e:j = (lstP p n).length
   ·subst e
    rw [gn_app2]
    have :=gn_mem (lstP p n) (i :=i) hij
    exact ((lstP_mem p _ n).1 this).1
   ·rw [gn_app1 _ _ (by omega)]
    exact ih i j hij (by omega)
  ·exact ih
theorem Srt.le {l:List Nat} (h:Srt l) {i j:Nat} (hij:i ≤ j) (hj:j < l.length):gn l i ≤ gn l j :=by
 by_cases e:i = j
 ·subst e;exact Nat.le_refl _
 ·exact Nat.le_of_lt (h i j (by omega) hj)
def cntB (n w:Nat):List Nat → Nat
 | [] => 0
 |y :: r => if y * n < w then cntB n w r + 1 else 0
theorem cnt_le (n w:Nat):∀ l,cntB n w l ≤ l.length
 | [] => Nat.le_refl 0
 |y :: r => by
  have :=cnt_le n w r
  rw [cntB,List.length_cons]
  split <;> omega
theorem cnt_lt (n w:Nat):∀ (l:List Nat) (i:Nat),i < cntB n w l → gn l i * n < w
 | [],_,h => absurd h (Nat.not_lt_zero _)
 |y :: r,i,h => by
  rw [cntB] at h
  split at h
  ·rename_i k
   cases i with
   |zero => exact k
   |succ i => exact cnt_lt n w r i (by omega)
  ·omega
theorem cnt_at (n w:Nat):∀ (l:List Nat),cntB n w l < l.length → ¬ gn l (cntB n w l) * n < w
 | [],h => absurd h (Nat.not_lt_zero _)
 |y :: r,h => by
  rw [cntB] at h ⊢
  split
  ·rename_i k
   rw [if_pos k,List.length_cons] at h
   exact cnt_at n w r (by omega)
  ·rename_i k
   exact k
theorem cnt_ge {n w:Nat} {l:List Nat} (hs:Srt l) {i:Nat} (h1:cntB n w l ≤ i) (h2:i < l.length):¬ gn l i * n < w :=by
 have h3 :=cnt_at n w l (by omega)
 have h4 :=Nat.mul_le_mul_right n (hs.le h1 h2)
 omega
def gp (a b:Nat):Nat :=(a - b) + (b - a)
def dQ (N D:Nat) (q:Nat × Nat):Nat × Nat :=(gp (q.1 * D) (N * q.2),q.2)
def fle (e e':Nat × Nat):Prop :=e.1 * e'.2 ≤ e'.1 * e.2
instance (e e'):Decidable (fle e e') :=by unfold fle;infer_instance
theorem fle_tr {a b c:Nat × Nat} (hb:1 ≤ b.2) (h:fle a b) (k:fle b c):fle a c :=by
 unfold fle at *
 have h1 :=Nat.mul_le_mul_right c.2 h
 have h2 :=Nat.mul_le_mul_right a.2 k
 have e1:a.1 * b.2 * c.2 = b.2 * (a.1 * c.2) :=by ac_rfl
 have e2:b.1 * a.2 * c.2 = b.1 * c.2 * a.2 :=by ac_rfl
 have e3:c.1 * b.2 * a.2 = b.2 * (c.1 * a.2) :=by ac_rfl
 rw [e1,e2] at h1
 rw [e3] at h2
 exact Nat.le_of_mul_le_mul_left (Nat.le_trans h1 h2) hb
def redF (x y:Nat):Nat × Nat :=(x / Nat.gcd x y,y / Nat.gcd x y)
abbrev NS :=List (Nat × Nat) × (Nat × Nat)
theorem gp_lt {a b:Nat} (h:a ≤ b):gp a b = b - a :=by unfold gp;omega
theorem gp_gt {a b:Nat} (h:a ≤ b):gp b a = b - a :=by unfold gp;omega
end Go.Abs.Seat
