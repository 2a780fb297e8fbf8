/-
  The document's rules; numbers of teeth; the sense.
-/
import Derived.Test.YtlmadgdonalncaaGreatDoorU7
import Derived.Test.YtlmadgdonalncaaGreatDoorU4
import Derived.Test.YtlmadgdonalncaaGreatDoorT24
import Derived.Laws.CopyRow
namespace Go.Abs.Seat
noncomputable section
open Go Go.Abs Go.Proofs.Tryz
set_option maxRecDepth 100000
set_option maxHeartbeats 40000000
attribute [local irreducible] IntKind.wrap pEq

end
end Go.Abs.Seat
namespace Go.Abs.Seat
open Go Go.Abs
set_option maxRecDepth 100000
theorem qes {a b:Int}:ordI a b < 0 ↔ a < b :=by
 unfold ordI;split
 ·exact ⟨fun _ => by assumption,fun _ => by omega⟩
 ·split <;> exact ⟨fun _ => by omega,fun _ => by omega⟩
theorem qh2 {a b:Int}:ordI a b = 0 ↔ a = b :=by
 unfold ordI;split
 ·exact ⟨fun _ => by omega,fun _ => by omega⟩
 ·split
  ·exact ⟨fun _ => by omega,fun _ => by omega⟩
  ·exact ⟨fun _ => by omega,fun _ => rfl⟩
theorem qdh (a b:Int) (r s:List Int):lexI (a :: r) (b :: s) = if a = b then lexI r s else ordI a b :=by
 rw [lexI]
 by_cases h:a = b
 ·rw [if_pos (qh2.2 h),if_pos h]
 ·rw [if_neg (fun k => h (qh2.1 k)),if_neg h]
theorem qsy:∀ {a b:List Int},lexI a b = 0 → a = b
 | [],[],_ => rfl
 | [],_ :: _,h => by simp [lexI] at h
 | _ :: _,[],h => by simp [lexI] at h
 |a :: r,b :: s,h => by
  rw [qdh] at h
  split at h
  ·rename_i e
   rw [e,qsy h]
  ·rename_i e
   exact absurd (qh2.1 h) e
theorem qed:∀ (a b:List Int),lexI b a = -lexI a b
 | [],[] => rfl
 | [],_ :: _ => rfl
 | _ :: _,[] => rfl
 |a :: r,b :: s => by
  rw [qdh,qdh]
  by_cases h:a = b
  ·rw [if_pos h,if_pos h.symm,qed r s]
  ·rw [if_neg h,if_neg (fun k => h k.symm),qva]
theorem qgp:∀ {a b c:List Int},lexI a b < 0 → lexI b c < 0 → lexI a c < 0
 | [],[],_,h,_ => by simp [lexI] at h
 | [],_ :: _,[],_,h => by simp [lexI] at h
 | [],_ :: _,_ :: _,_,_ => by simp [lexI]
 | _ :: _,[],_,h,_ => by simp [lexI] at h
 | _ :: _,_ :: _,[],_,h => by simp [lexI] at h
 |a :: r,b :: s,c :: t,h1,h2 => by
  rw [qdh] at h1 h2 ⊢
  by_cases e1:a = b
  ·subst e1
   rw [if_pos rfl] at h1
   by_cases e2:a = c
   ·subst e2
    rw [if_pos rfl] at h2 ⊢
    exact qgp h1 h2
   ·rw [if_neg e2] at h2 ⊢
    exact h2
  ·rw [if_neg e1,qes] at h1
   by_cases e2:b = c
   ·subst e2
    rw [if_neg e1,qes]
    exact h1
   ·rw [if_neg e2,qes] at h2
    rw [if_neg (by omega),qes]
    omega
def Asc (lo hi:Int):List Int → Prop
 | [] => True
 |x :: r => lo ≤ x ∧ x < hi ∧ Asc (x + 1) hi r
theorem Asc.of_ix {hi:Int}:∀ {l:List Int} {lo:Int},(∀ i,i < l.length → gi l i < hi ∧ (0 < i → gi l (i - 1) < gi l i)) → (0 < l.length → lo ≤ gi l 0) → Asc lo hi l
 | [],_,_,_ => trivial
 |x :: r,lo,h,h0 => by
  refine ⟨h0 (Nat.succ_pos _),(h 0 (Nat.succ_pos _)).1,Asc.of_ix (fun i hi => ?_) fun hr => ?_⟩
  ·have :=h (i + 1) (by simpa using hi)
   refine ⟨this.1,fun k => ?_⟩
   have :=this.2 (Nat.succ_pos _)
   cases i with
   |zero => omega
   |succ i => exact this
  ·have :=(h 1 (by simpa using hr)).2 (by omega)
   have:x < gi r 0 :=this
   omega
theorem qxg {n:Nat} {l:List Int} (h:seOk n l):Asc 0 n l :=
 Asc.of_ix (fun i hi => ⟨by have :=(h i hi).1;omega,(h i hi).2⟩) fun h0 => (h 0 h0).1.1
theorem Asc.ix {hi:Int}:∀ {l:List Int} {lo:Int},Asc lo hi l → ∀ i,i < l.length → (lo ≤ gi l i ∧ gi l i < hi) ∧ (0 < i → gi l (i - 1) < gi l i)
 |x :: r,lo,h,0,_ => ⟨⟨h.1,h.2.1⟩,fun k => absurd k (Nat.lt_irrefl _)⟩
 |x :: r,lo,h,i + 1,hi => by
  have hr:i < r.length :=by simpa using hi
  have :=Asc.ix h.2.2 i hr
  refine ⟨⟨by have h1 :=h.1;have:x + 1 ≤ gi r i :=this.1.1;show lo ≤ gi r i;omega,this.1.2⟩,fun _ => ?_⟩
  cases i with
  |zero => have:x + 1 ≤ gi r 0 :=this.1.1;show x < gi r 0;omega
  |succ i => exact this.2 (Nat.succ_pos _)
theorem qt6 {n:Nat} {l:List Int} (h:Asc 0 n l):seOk n l :=fun i hi => ⟨by have :=(h.ix i hi).1;omega,(h.ix i hi).2⟩
theorem Asc.snoc {hi:Int}:∀ {l:List Int} {lo:Int},Asc lo (hi + 1) l → Asc lo hi l ∨ ∃ r,l = r ++ [hi] ∧ Asc lo hi r
 | [],_,_ => .inl trivial
 |x :: r,lo,h => by
  rcases Asc.snoc h.2.2 with k | ⟨q,rfl,k⟩
  ·by_cases e:x = hi
   ·subst e
    cases r with
    |nil => exact .inr ⟨[],rfl,trivial⟩
    |cons y r => have :=k.1;have :=k.2.1;omega
   ·exact .inl ⟨h.1,by have :=h.2.1;omega,k⟩
  ·refine .inr ⟨x :: q,rfl,h.1,?_,k⟩
   cases q with
   |nil => have :=h.2.2.1;omega
   |cons y q => have :=k.1;have :=k.2.1;omega
theorem quq:∀ (n m c:Nat),subs (m + 2 ^ n * c) n = subs m n :=by
 intro n
 have:∀ (i m c:Nat),i ≤ n → subs (m + 2 ^ n * c) i = subs m i :=by
  intro i
  induction i with
  |zero => intros;rfl
  |succ i ih =>
   intro m c hi
   have e:(m + 2 ^ n * c) / 2 ^ i % 2 = m / 2 ^ i % 2 :=by
    have e1:2 ^ n = 2 ^ i * (2 * 2 ^ (n - i - 1)) :=by
     rw [← Nat.pow_succ',← Nat.pow_add];congr 1;omega
    rw [e1,Nat.mul_assoc,Nat.add_mul_div_left _ _ (Nat.pow_pos (by omega)),Nat.mul_assoc,Nat.add_mul_mod_self_left]
   rw [subs,subs,e,ih m c (by omega)]
 exact fun m c => this n m c (Nat.le_refl _)
theorem qe5:∀ (n:Nat) (l:List Int),Asc 0 n l → ∃ m,m < 2 ^ n ∧ subs m n = l
 | 0,l,h => by
  refine ⟨0,Nat.one_pos,?_⟩
  cases l with
  |nil => rfl
  |cons x r => have :=h.1;have :=h.2.1;simp only [Int.natCast_zero] at this;omega
 |n + 1,l,h => by
  have hp:2 ^ (n + 1) = 2 ^ n + 2 ^ n :=by rw [Nat.pow_succ];omega
  have p0:0 < 2 ^ n :=Nat.pow_pos (by omega)
  rcases Asc.snoc (hi :=n) (by simpa using h) with k | ⟨r,rfl,k⟩
  ·obtain ⟨m,hm,e⟩ :=qe5 n l k
   refine ⟨m,by omega,?_⟩
   rw [subs,Nat.div_eq_of_lt hm,if_neg (by decide)]
   exact e
  ·obtain ⟨m,hm,e⟩ :=qe5 n r k
   refine ⟨m + 2 ^ n * 1,by omega,?_⟩
   rw [subs,Nat.add_mul_div_left _ _ p0,Nat.div_eq_of_lt hm,if_pos (by decide),quq,e]
   rfl
def lsts:Nat → Nat → Nat → List (List Int)
 | 0,_,_ => [[]]
 | _ + 1,_,0 => []
 |m + 1,a,k + 1 => (lsts m (a + 1) k).map (Int.ofNat a :: ·) ++ lsts (m + 1) (a + 1) k
theorem qdq:∀ (k m a:Nat) (x:List Int),x ∈ lsts m a k ↔ x.length = m ∧ Asc a (a + k:Nat) x :=by
 intro k
 induction k with
 |zero =>
  intro m a x
  cases m with
  |zero =>
   rw [lsts,List.mem_singleton]
   constructor
   ·rintro rfl;exact ⟨rfl,trivial⟩
   ·rintro ⟨h,_⟩;exact List.eq_nil_of_length_eq_zero h
  |succ m =>
   rw [lsts]
   constructor
   ·intro h;nomatch h
   ·rintro ⟨h,h2⟩
    cases x with
    |nil => cases h
    |cons y r => have :=h2.1;have :=h2.2.1;simp only [Nat.add_zero] at this;omega
 |succ k ih =>
  intro m a x
  cases m with
  |zero =>
   rw [lsts,List.mem_singleton]
   constructor
   ·rintro rfl;exact ⟨rfl,trivial⟩
   ·rintro ⟨h,_⟩;exact List.eq_nil_of_length_eq_zero h
  |succ m =>
   rw [lsts,List.mem_append,List.mem_map,ih]
   have ea:a + 1 + k = a + (k + 1) :=by omega
   constructor
   ·rintro (⟨r,hr,rfl⟩ | ⟨h1,h2⟩)
    ·have :=(ih m (a + 1) r).1 hr
     rw [ea] at this
     refine ⟨by rw [List.length_cons,this.1],by show (a:Int) ≤ (a:Int);omega,by show (a:Int) < _;omega,by exact_mod_cast this.2⟩
    ·refine ⟨h1,?_⟩
     rw [ea] at h2
     cases x with
     |nil => trivial
     |cons y r => exact ⟨by have :=h2.1;omega,h2.2⟩
   ·rintro ⟨h1,h2⟩
    cases x with
    |nil => cases h1
    |cons y r =>
     by_cases e:y = Int.ofNat a
     ·subst e
      refine .inl ⟨r,(ih m (a + 1) r).2 ⟨by simpa using h1,?_⟩,rfl⟩
      rw [ea]
      exact_mod_cast h2.2.2
     ·refine .inr ⟨h1,?_⟩
      rw [ea]
      have h3 :=h2.1
      have e:¬ y = (a:Int) :=e
      exact ⟨by omega,h2.2⟩
theorem qss:∀ (k m a:Nat),(lsts m a k).Pairwise fun x y => lexI x y < 0 :=by
 intro k
 induction k with
 |zero =>
  intro m a
  cases m with
  |zero => rw [lsts];exact List.pairwise_singleton _ _
  |succ m => rw [lsts];exact List.Pairwise.nil
 |succ k ih =>
  intro m a
  cases m with
  |zero => rw [lsts];exact List.pairwise_singleton _ _
  |succ m =>
   rw [lsts,List.pairwise_append]
   refine ⟨?_,ih _ _,?_⟩
   ·rw [List.pairwise_map]
    refine (ih m (a + 1)).imp fun {x y} h => ?_
    rw [qdh,if_pos rfl]
    exact h
   ·intro x hx y hy
    obtain ⟨r,_,rfl⟩ :=List.mem_map.1 hx
    have :=((qdq k (m + 1) (a + 1) y).1 hy)
    cases y with
    |nil => cases this.1
    |cons z s =>
     have h1 :=this.2.1
     rw [qdh,if_neg (by show ¬ (a:Int) = z;omega),qes]
     show (a:Int) < z
     omega
theorem qyp {m a k i j:Nat} (hj:j < (lsts m a k).length) (hi:i < (lsts m a k).length) (h:lexI (gs (lsts m a k) j) (gs (lsts m a k) i) < 0):j < i :=by
 have ei:gs (lsts m a k) i = (lsts m a k)[i] :=by simp [gs,List.getD,hi]
 have ej:gs (lsts m a k) j = (lsts m a k)[j] :=by simp [gs,List.getD,hj]
 rw [ei,ej] at h
 have hp :=List.pairwise_iff_getElem.1 (qss k m a)
 apply Nat.lt_of_not_le
 intro hle
 by_cases e:i = j
 ·subst e
  have :=qed (lsts m a k)[i] (lsts m a k)[i]
  omega
 ·have h2 :=hp i j hi hj (by omega)
  have :=qgp h h2
  have :=qed (lsts m a k)[j] (lsts m a k)[j]
  omega
end Go.Abs.Seat
/-! Trains of a rule: the parts. -/
namespace Go.Abs.Seat
noncomputable section
open Go Go.Abs Go.Proofs.Tryz
set_option maxRecDepth 100000
set_option maxHeartbeats 40000000
section
attribute [local irreducible] IntKind.wrap pEq
theorem IL.cs {N:AV} {l:List Int} (h:IL N l):N = .nils ∨ N = nl l :=by
 rcases h with ⟨e,_⟩ | e
 ·exact .inl e
 ·exact .inr e
end
section
attribute [local irreducible] pEq
end
end
end Go.Abs.Seat

namespace Go.Abs.Seat
noncomputable section
open Go Go.Abs Go.Proofs.Tryz
set_option maxRecDepth 100000
set_option maxHeartbeats 40000000
attribute [local irreducible] IntKind.wrap pEq
def cutP (a b:Int) (l:List Int) (x:Int):Prop :=¬ x ∈ l ∧ a ≤ x ∧ x ≤ b
instance (a b l x):Decidable (cutP a b l x) :=by unfold cutP;infer_instance
end
end Go.Abs.Seat
namespace Go.Abs.Seat
def ltQ (p q:Nat × Nat):Prop :=p.1 < q.1 ∨ p.1 = q.1 ∧ p.2 < q.2
instance (p q):Decidable (ltQ p q) :=by unfold ltQ;infer_instance
theorem qyo (p):¬ ltQ p p :=by unfold ltQ;omega
theorem qsq {p q r} (h:ltQ p q) (k:ltQ q r):ltQ p r :=by unfold ltQ at *;omega
theorem qyn (p q:Nat × Nat):ltQ p q ∨ p = q ∨ ltQ q p :=by
 obtain ⟨a,b⟩ :=p
 obtain ⟨c,d⟩ :=q
 unfold ltQ
 simp only [Prod.mk.injEq]
 omega
def ltL:List (Nat × Nat) → List (Nat × Nat) → Prop
 |p :: r,q :: s => ltQ p q ∨ p = q ∧ ltL r s
 | _,_ => False
theorem qsr:∀ {a b:List (Nat × Nat)},a.length = b.length → ltL a b ∨ a = b ∨ ltL b a
 | [],[],_ => .inr (.inl rfl)
 |p :: r,q :: s,h => by
  rcases qyn p q with k | rfl | k
  ·exact .inl (.inl k)
  ·rcases qsr (a :=r) (b :=s) (by simpa using h) with k | rfl | k
   ·exact .inl (.inr ⟨rfl,k⟩)
   ·exact .inr (.inl rfl)
   ·exact .inr (.inr (.inr ⟨rfl,k⟩))
  ·exact .inr (.inr (.inl k))
 | [],_ :: _,h => by cases h
 | _ :: _,[],h => by cases h
def qru (p:Nat → Prop):Nat → Nat → Prop
 | 0,x => x = 1
 |k + 1,x => ∃ y n,qru p k y ∧ p n ∧ x = y * n
def gn (l:List Nat) (i:Nat):Nat :=l.getD i 0
theorem qxp (l:List Nat) {i:Nat} (h:i < l.length):l.take (i + 1) = l.take i ++ [gn l i] :=by
 rw [List.take_succ_eq_append_getElem h]
 simp [gn,List.getD,h]
theorem qtd (l:List Nat) {i:Nat} (h:i < l.length):gn l i ∈ l :=by
 have e:gn l i = l[i] :=by simp [gn,List.getD,h]
 rw [e];exact List.getElem_mem h
def Srt (l:List Nat):Prop :=∀ i j,i < j → j < l.length → gn l i < gn l j
theorem Srt.le {l:List Nat} (h:Srt l) {i j:Nat} (hij:i ≤ j) (hj:j < l.length):gn l i ≤ gn l j :=by
 by_cases e:i = j
 ·subst e;exact Nat.le_refl _
 ·exact Nat.le_of_lt (h i j (by omega) hj)
def gp (a b:Nat):Nat :=(a - b) + (b - a)
def dQ (N D:Nat) (q:Nat × Nat):Nat × Nat :=(gp (q.1 * D) (N * q.2),q.2)
def fle (e e':Nat × Nat):Prop :=e.1 * e'.2 ≤ e'.1 * e.2
instance (e e'):Decidable (fle e e') :=by unfold fle;infer_instance
theorem qnq (e:Nat × Nat):fle e e :=Nat.le_refl _
theorem qy0 (e f:Nat × Nat):fle e f ∨ fle f e :=Nat.le_total _ _
theorem qpr {a b c:Nat × Nat} (hb:1 ≤ b.2) (h:fle a b) (k:fle b c):fle a c :=by
 unfold fle at *
 have h1 :=Nat.mul_le_mul_right c.2 h
 have h2 :=Nat.mul_le_mul_right a.2 k
 have e1:a.1 * b.2 * c.2 = b.2 * (a.1 * c.2) :=by ac_rfl
 have e2:b.1 * a.2 * c.2 = b.1 * c.2 * a.2 :=by ac_rfl
 have e3:c.1 * b.2 * a.2 = b.2 * (c.1 * a.2) :=by ac_rfl
 rw [e1,e2] at h1
 rw [e3] at h2
 exact Nat.le_of_mul_le_mul_left (Nat.le_trans h1 h2) hb
abbrev NS :=List (Nat × Nat) × (Nat × Nat)
def cand (N D:Nat) (s:NS) (q:Nat × Nat):NS :=
 if s.1 = [] ∨ (dQ N D q).1 * s.2.2 < s.2.1 * (dQ N D q).2 then ([q],dQ N D q)
 else if (dQ N D q).1 * s.2.2 = s.2.1 * (dQ N D q).2 ∧ q ∉ s.1 then (s.1 ++ [q],s.2) else s
structure CInv (N D:Nat) (L:List (Nat × Nat)) (s:NS):Prop where
 lp:∀ q,q ∈ L → 1 ≤ q.2
 nil:s.1 = [] ↔ L = []
 mem:∀ q,q ∈ s.1 → q ∈ L ∧ fle (dQ N D q) s.2 ∧ fle s.2 (dQ N D q)
 all:∀ q,q ∈ L → fle s.2 (dQ N D q) ∧ (fle (dQ N D q) s.2 → q ∈ s.1)
 pos:s.1 ≠ [] → 1 ≤ s.2.2
theorem CInv.step {N D:Nat} {L:List (Nat × Nat)} {s:NS} (h:CInv N D L s) {q:Nat × Nat} (hq:1 ≤ q.2):CInv N D (L ++ [q]) (cand N D s q) :=by
 have hlp:∀ p,p ∈ L ++ [q] → 1 ≤ p.2 :=fun p hp => by
  rw [List.mem_append,List.mem_singleton] at hp
  rcases hp with hp | rfl
  ·exact h.lp p hp
  ·exact hq
 unfold cand
 split
 ·rename_i hc
  refine ⟨hlp,⟨fun e => (by cases e),fun e => (by simp at e)⟩,fun p hp => ?_,fun p hp => ?_,fun _ => hq⟩
  ·rw [List.mem_singleton] at hp
   subst hp
   exact ⟨by simp,qnq _,qnq _⟩
  ·rw [List.mem_append,List.mem_singleton] at hp
   rcases hp with hp | rfl
   ·have hs:s.1 ≠ [] :=fun e => by rw [h.nil.1 e] at hp;cases hp
    have hlt :=hc.resolve_left hs
    have h1 :=h.all p hp
    have h2:fle (dQ N D q) s.2 :=Nat.le_of_lt hlt
    exact ⟨qpr (h.pos hs) h2 h1.1,fun k => absurd (qpr (b :=dQ N D p) (h.lp p hp) h1.1 k) (Nat.not_le.2 hlt)⟩
   ·exact ⟨qnq _,fun _ => (by simp)⟩
 ·rename_i hc
  have hs:s.1 ≠ [] :=fun e => hc (.inl e)
  have hle:fle s.2 (dQ N D q) :=Nat.not_lt.1 fun e => hc (.inr e)
  have hL:L ≠ [] :=fun e => hs (h.nil.2 e)
  split
  ·rename_i he
   have he1:fle (dQ N D q) s.2 :=Nat.le_of_eq he.1
   refine ⟨hlp,⟨fun e => (by simp at e),fun e => (by simp at e)⟩,fun p hp => ?_,fun p hp => ?_,fun _ => h.pos hs⟩
   ·rw [List.mem_append,List.mem_singleton] at hp
    rcases hp with hp | rfl
    ·exact ⟨List.mem_append_left _ (h.mem p hp).1,(h.mem p hp).2⟩
    ·exact ⟨by simp,he1,hle⟩
   ·rw [List.mem_append,List.mem_singleton] at hp
    rcases hp with hp | rfl
    ·exact ⟨(h.all p hp).1,fun k => List.mem_append_left _ ((h.all p hp).2 k)⟩
    ·exact ⟨hle,fun _ => (by simp)⟩
  ·rename_i he
   refine ⟨hlp,⟨fun e => absurd e hs,fun e => (by simp at e)⟩,fun p hp => ⟨List.mem_append_left _ (h.mem p hp).1,(h.mem p hp).2⟩,fun p hp => ?_,h.pos⟩
   rw [List.mem_append,List.mem_singleton] at hp
   rcases hp with hp | rfl
   ·exact h.all p hp
   ·refine ⟨hle,fun k => ?_⟩
    apply Classical.byContradiction
    intro hn
    exact he ⟨Nat.le_antisymm k hle,hn⟩
end Go.Abs.Seat
