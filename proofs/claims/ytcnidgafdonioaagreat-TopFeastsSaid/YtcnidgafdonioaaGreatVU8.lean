/-
  The document's rules; numbers of teeth; the sense.
-/
import Derived.Test.YtcnidgafdonioaaGreatVU7
import Derived.Test.YtcnidgafdonioaaGreatVU4
import Derived.Test.YtcnidgafdonioaaGreatVT24
import Derived.Laws.CopyRow
namespace Go.Abs.Seat
noncomputable section
open Go Go.Abs Go.Proofs.Tryz
set_option maxRecDepth 100000
set_option maxHeartbeats 40000000
attribute [local irreducible] IntKind.wrap pEq

end
end Go.Abs.Seat
namespace Go.Abs.Seat
open Go Go.Abs
set_option maxRecDepth 100000
theorem ordI_lt {a b:Int}:ordI a b < 0 ↔ a < b :=by
 unfold ordI;split
 ·exact ⟨fun _ => by assumption,fun _ => by omega⟩
 ·split <;> exact ⟨fun _ => by omega,fun _ => by omega⟩
theorem ordI_zero {a b:Int}:ordI a b = 0 ↔ a = b :=by
 unfold ordI;split
 ·exact ⟨fun _ => by omega,fun _ => by omega⟩
 ·split
  ·exact ⟨fun _ => by omega,fun _ => by omega⟩
  ·exact ⟨fun _ => by omega,fun _ => rfl⟩
theorem lexI_cons (a b:Int) (r s:List Int):lexI (a :: r) (b :: s) = if a = b then lexI r s else ordI a b :=by
 rw [lexI]
 by_cases h:a = b
 ·rw [if_pos (ordI_zero.2 h),if_pos h]
 ·rw [if_neg (fun k => h (ordI_zero.1 k)),if_neg h]
theorem lexI_eq:∀ {a b:List Int},lexI a b = 0 → a = b
 | [],[],_ => rfl
 | [],_ :: _,h => by simp [lexI] at h
 | _ :: _,[],h => by simp [lexI] at h
 |a :: r,b :: s,h => by
  rw [lexI_cons] at h
  split at h
  ·rename_i e
   rw [e,lexI_eq h]
  ·rename_i e
   exact absurd (ordI_zero.1 h) e
theorem lexI_neg:∀ (a b:List Int),lexI b a = -lexI a b
 | [],[] => rfl
 | [],_ :: _ => rfl
 | _ :: _,[] => rfl
 |a :: r,b :: s => by
  rw [lexI_cons,lexI_cons]
  by_cases h:a = b
  ·rw [if_pos h,if_pos h.symm,lexI_neg r s]
  ·rw [if_neg h,if_neg (fun k => h k.symm),ordI_neg]
theorem lexI_trans:∀ {a b c:List Int},lexI a b < 0 → lexI b c < 0 → lexI a c < 0
 | [],[],_,h,_ => by simp [lexI] at h
 | [],_ :: _,[],_,h => by simp [lexI] at h
 | [],_ :: _,_ :: _,_,_ => by simp [lexI]
 | _ :: _,[],_,h,_ => by simp [lexI] at h
 | _ :: _,_ :: _,[],_,h => by simp [lexI] at h
 |a :: r,b :: s,c :: t,h1,h2 => by
  rw [lexI_cons] at h1 h2 ⊢
  by_cases e1:a = b
  ·subst e1
   rw [if_pos rfl] at h1
   by_cases e2:a = c
   ·subst e2
    rw [if_pos rfl] at h2 ⊢
    exact lexI_trans h1 h2
   ·rw [if_neg e2] at h2 ⊢
    exact h2
  ·rw [if_neg e1,ordI_lt] at h1
   by_cases e2:b = c
   ·subst e2
    rw [if_neg e1,ordI_lt]
    exact h1
   ·rw [if_neg e2,ordI_lt] at h2
    rw [if_neg (by omega),ordI_lt]
    omega
theorem seI_lt {a b:List Int}:seI a b < 0 ↔ a.length < b.length ∨ a.length = b.length ∧ lexI a b < 0 :=by
 unfold seI
 split
 ·rename_i h
  have :=ordI_zero.1 h
  omega
 ·rename_i h
  have h1:¬ (a.length:Int) = b.length :=fun k => h (ordI_zero.2 k)
  rw [ordI_lt]
  omega
theorem seI_trans {a b c:List Int} (h1:seI a b < 0) (h2:seI b c < 0):seI a c < 0 :=by
 rw [seI_lt] at *
 rcases h1 with h1 | ⟨h1,h3⟩ <;> rcases h2 with h2 | ⟨h2,h4⟩
 ·exact .inl (by omega)
 ·exact .inl (by omega)
 ·exact .inl (by omega)
 ·exact .inr ⟨by omega,lexI_trans h3 h4⟩
theorem seI_eq {a b:List Int} (h1:¬ seI a b < 0) (h2:¬ seI b a < 0):a = b :=by
 rw [seI_lt] at h1 h2
 apply lexI_eq
 have :=lexI_neg a b
 omega
theorem bstS_mem:∀ {l:List (List Int)},l ≠ [] → bstS l ∈ l
 |x :: r,_ => by
  have:∀ (r:List (List Int)) (o:List Int),r.foldl (fun o y => if seI y o < 0 then y else o) o = o ∨ r.foldl (fun o y => if seI y o < 0 then y else o) o ∈ r :=by
   intro r
   induction r with
   |nil => intro o;exact .inl rfl
   |cons y r ih =>
    intro o
    rcases ih (if seI y o < 0 then y else o) with h | h
    ·by_cases k:seI y o < 0
     ·rw [if_pos k] at h
      exact .inr (by rw [List.foldl_cons,if_pos k,h];exact List.mem_cons_self)
     ·rw [if_neg k] at h
      exact .inl (by rw [List.foldl_cons,if_neg k,h])
    ·exact .inr (List.mem_cons_of_mem _ h)
  rcases this r x with h | h
  ·show r.foldl _ x ∈ _
   rw [h];exact List.mem_cons_self
  ·exact List.mem_cons_of_mem _ h
theorem bstS_min:∀ {l:List (List Int)} {y:List Int},y ∈ l → ¬ seI y (bstS l) < 0
 |x :: r,y,hy => by
  have:∀ (r:List (List Int)) (o:List Int),¬ seI o (r.foldl (fun o y => if seI y o < 0 then y else o) o) < 0 ∧ ∀ z,z ∈ r → ¬ seI z (r.foldl (fun o y => if seI y o < 0 then y else o) o) < 0 :=by
   intro r
   induction r with
   |nil => intro o;refine ⟨?_,fun _ h => (nomatch h)⟩;show ¬ seI o o < 0;rw [seI_lt];have :=lexI_neg o o;omega
   |cons y r ih =>
    intro o
    rw [List.foldl_cons]
    have h :=ih (if seI y o < 0 then y else o)
    generalize hw:r.foldl (fun o y => if seI y o < 0 then y else o) (if seI y o < 0 then y else o) = w at h
    by_cases k:seI y o < 0
    ·rw [if_pos k] at h
     refine ⟨fun q => ?_,fun z hz => ?_⟩
     ·exact h.1 (seI_trans k q)
     ·rcases List.mem_cons.1 hz with rfl | hz
      ·exact h.1
      ·exact h.2 z hz
    ·rw [if_neg k] at h
     refine ⟨h.1,fun z hz => ?_⟩
     rcases List.mem_cons.1 hz with rfl | hz
     ·intro q
      by_cases e:seI o z < 0
      ·exact h.1 (seI_trans e q)
      ·have :=seI_eq k e
       subst this
       exact h.1 q
     ·exact h.2 z hz
  have :=this r x
  rcases List.mem_cons.1 hy with rfl | hy
  ·exact this.1
  ·exact this.2 y hy
def Asc (lo hi:Int):List Int → Prop
 | [] => True
 |x :: r => lo ≤ x ∧ x < hi ∧ Asc (x + 1) hi r
theorem Asc.of_ix {hi:Int}:∀ {l:List Int} {lo:Int},(∀ i,i < l.length → gi l i < hi ∧ (0 < i → gi l (i - 1) < gi l i)) → (0 < l.length → lo ≤ gi l 0) → Asc lo hi l
 | [],_,_,_ => trivial
 |x :: r,lo,h,h0 => by
  refine ⟨h0 (Nat.succ_pos _),(h 0 (Nat.succ_pos _)).1,Asc.of_ix (fun i hi => ?_) fun hr => ?_⟩
  ·have :=h (i + 1) (by simpa using hi)
   refine ⟨this.1,fun k => ?_⟩
   have :=this.2 (Nat.succ_pos _)
   cases i with
   |zero => omega
   |succ i => exact this
  ·have :=(h 1 (by simpa using hr)).2 (by omega)
   have:x < gi r 0 :=this
   omega
theorem asc_of {n:Nat} {l:List Int} (h:seOk n l):Asc 0 n l :=
 Asc.of_ix (fun i hi => ⟨by have :=(h i hi).1;omega,(h i hi).2⟩) fun h0 => (h 0 h0).1.1
theorem Asc.ix {hi:Int}:∀ {l:List Int} {lo:Int},Asc lo hi l → ∀ i,i < l.length → (lo ≤ gi l i ∧ gi l i < hi) ∧ (0 < i → gi l (i - 1) < gi l i)
 |x :: r,lo,h,0,_ => ⟨⟨h.1,h.2.1⟩,fun k => absurd k (Nat.lt_irrefl _)⟩
 |x :: r,lo,h,i + 1,hi => by
  have hr:i < r.length :=by simpa using hi
  have :=Asc.ix h.2.2 i hr
  refine ⟨⟨by have h1 :=h.1;have:x + 1 ≤ gi r i :=this.1.1;show lo ≤ gi r i;omega,this.1.2⟩,fun _ => ?_⟩
  cases i with
  |zero => have:x + 1 ≤ gi r 0 :=this.1.1;show x < gi r 0;omega
  |succ i => exact this.2 (Nat.succ_pos _)
theorem asc_ok {n:Nat} {l:List Int} (h:Asc 0 n l):seOk n l :=fun i hi => ⟨by have :=(h.ix i hi).1;omega,(h.ix i hi).2⟩
theorem Asc.snoc {hi:Int}:∀ {l:List Int} {lo:Int},Asc lo (hi + 1) l → Asc lo hi l ∨ ∃ r,l = r ++ [hi] ∧ Asc lo hi r
 | [],_,_ => .inl trivial
 |x :: r,lo,h => by
  rcases Asc.snoc h.2.2 with k | ⟨q,rfl,k⟩
  ·by_cases e:x = hi
   ·subst e
    cases r with
    |nil => exact .inr ⟨[],rfl,trivial⟩
    |cons y r => have :=k.1;have :=k.2.1;omega
   ·exact .inl ⟨h.1,by have :=h.2.1;omega,k⟩
  ·refine .inr ⟨x :: q,rfl,h.1,?_,k⟩
   cases q with
   |nil => have :=h.2.2.1;omega
   |cons y q => have :=k.1;have :=k.2.1;omega
theorem subs_low:∀ (n m c:Nat),subs (m + 2 ^ n * c) n = subs m n :=by
 intro n
 have:∀ (i m c:Nat),i ≤ n → subs (m + 2 ^ n * c) i = subs m i :=by
  intro i
  induction i with
  |zero => intros;rfl
  |succ i ih =>
   intro m c hi
   have e:(m + 2 ^ n * c) / 2 ^ i % 2 = m / 2 ^ i % 2 :=by
    have e1:2 ^ n = 2 ^ i * (2 * 2 ^ (n - i - 1)) :=by
     rw [← Nat.pow_succ',← Nat.pow_add];congr 1;omega
    rw [e1,Nat.mul_assoc,Nat.add_mul_div_left _ _ (Nat.pow_pos (by omega)),Nat.mul_assoc,Nat.add_mul_mod_self_left]
   rw [subs,subs,e,ih m c (by omega)]
 exact fun m c => this n m c (Nat.le_refl _)
theorem subs_all:∀ (n:Nat) (l:List Int),Asc 0 n l → ∃ m,m < 2 ^ n ∧ subs m n = l
 | 0,l,h => by
  refine ⟨0,Nat.one_pos,?_⟩
  cases l with
  |nil => rfl
  |cons x r => have :=h.1;have :=h.2.1;simp only [Int.natCast_zero] at this;omega
 |n + 1,l,h => by
  have hp:2 ^ (n + 1) = 2 ^ n + 2 ^ n :=by rw [Nat.pow_succ];omega
  have p0:0 < 2 ^ n :=Nat.pow_pos (by omega)
  rcases Asc.snoc (hi :=n) (by simpa using h) with k | ⟨r,rfl,k⟩
  ·obtain ⟨m,hm,e⟩ :=subs_all n l k
   refine ⟨m,by omega,?_⟩
   rw [subs,Nat.div_eq_of_lt hm,if_neg (by decide)]
   exact e
  ·obtain ⟨m,hm,e⟩ :=subs_all n r k
   refine ⟨m + 2 ^ n * 1,by omega,?_⟩
   rw [subs,Nat.add_mul_div_left _ _ p0,Nat.div_eq_of_lt hm,if_pos (by decide),subs_low,e]
   rfl
theorem okS_iff {f:List Int} {L u:Nat} {x:List Int}:∀ {s:Nat},x ∈ okS f L u s ↔ ∃ m,m < s ∧ x = subs m f.length ∧ kp L u 0 (days f x)
 | 0 => ⟨fun h => (nomatch h),fun ⟨_,h,_⟩ => absurd h (Nat.not_lt_zero _)⟩
 |s + 1 => by
  have ih :=okS_iff (f :=f) (L :=L) (u :=u) (x :=x) (s :=s)
  rw [okS]
  by_cases k:kp L u 0 (days f (subs s f.length))
  ·rw [if_pos k,List.mem_append,ih,List.mem_singleton]
   constructor
   ·rintro (⟨m,h1,h2⟩ | rfl)
    ·exact ⟨m,by omega,h2⟩
    ·exact ⟨s,by omega,rfl,k⟩
   ·rintro ⟨m,h1,h2,h3⟩
    by_cases e:m = s
    ·subst e;exact .inr h2
    ·exact .inl ⟨m,by omega,h2,h3⟩
  ·rw [if_neg k,ih]
   constructor
   ·rintro ⟨m,h1,h2⟩
    exact ⟨m,by omega,h2⟩
   ·rintro ⟨m,h1,rfl,h3⟩
    by_cases e:m = s
    ·subst e;exact absurd h3 k
    ·exact ⟨m,by omega,rfl,h3⟩
theorem okS_all {f:List Int} {L u:Nat} {x:List Int}:x ∈ okS f L u (2 ^ f.length) ↔ seOk f.length x ∧ kp L u 0 (days f x) :=by
 rw [okS_iff]
 constructor
 ·rintro ⟨m,_,rfl,h⟩
  exact ⟨subs_ok _ _,h⟩
 ·rintro ⟨h1,h2⟩
  obtain ⟨m,hm,e⟩ :=subs_all f.length x (asc_of h1)
  exact ⟨m,hm,e.symm,h2⟩
end Go.Abs.Seat
/-! Trains of a rule: the parts. -/
namespace Go.Abs.Seat
noncomputable section
open Go Go.Abs Go.Proofs.Tryz
set_option maxRecDepth 100000
set_option maxHeartbeats 40000000
section
attribute [local irreducible] IntKind.wrap pEq
theorem IL.cs {N:AV} {l:List Int} (h:IL N l):N = .nils ∨ N = nl l :=by
 rcases h with ⟨e,_⟩ | e
 ·exact .inl e
 ·exact .inr e
end
section
attribute [local irreducible] pEq
end
end
end Go.Abs.Seat

namespace Go.Abs.Seat
noncomputable section
open Go Go.Abs Go.Proofs.Tryz
set_option maxRecDepth 100000
set_option maxHeartbeats 40000000
attribute [local irreducible] IntKind.wrap pEq
def cutP (a b:Int) (l:List Int) (x:Int):Prop :=¬ x ∈ l ∧ a ≤ x ∧ x ≤ b
instance (a b l x):Decidable (cutP a b l x) :=by unfold cutP;infer_instance
end
end Go.Abs.Seat
namespace Go.Abs.Seat
def ltQ (p q:Nat × Nat):Prop :=p.1 < q.1 ∨ p.1 = q.1 ∧ p.2 < q.2
instance (p q):Decidable (ltQ p q) :=by unfold ltQ;infer_instance
def ltL:List (Nat × Nat) → List (Nat × Nat) → Prop
 |p :: r,q :: s => ltQ p q ∨ p = q ∧ ltL r s
 | _,_ => False
def gp (a b:Nat):Nat :=(a - b) + (b - a)
def dQ (N D:Nat) (q:Nat × Nat):Nat × Nat :=(gp (q.1 * D) (N * q.2),q.2)
def fle (e e':Nat × Nat):Prop :=e.1 * e'.2 ≤ e'.1 * e.2
instance (e e'):Decidable (fle e e') :=by unfold fle;infer_instance
theorem fle_tr {a b c:Nat × Nat} (hb:1 ≤ b.2) (h:fle a b) (k:fle b c):fle a c :=by
 unfold fle at *
 have h1 :=Nat.mul_le_mul_right c.2 h
 have h2 :=Nat.mul_le_mul_right a.2 k
 have e1:a.1 * b.2 * c.2 = b.2 * (a.1 * c.2) :=by ac_rfl
 have e2:b.1 * a.2 * c.2 = b.1 * c.2 * a.2 :=by ac_rfl
 have e3:c.1 * b.2 * a.2 = b.2 * (c.1 * a.2) :=by ac_rfl
 rw [e1,e2] at h1
 rw [e3] at h2
 exact Nat.le_of_mul_le_mul_left (Nat.le_trans h1 h2) hb
abbrev NS :=List (Nat × Nat) × (Nat × Nat)
end Go.Abs.Seat
