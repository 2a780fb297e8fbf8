/-
  Guesses, plain: which they are, and what is between their bounds.
-/
import Derived.Test.YtcnidgafdonioaaGreatVJ11
namespace Go.Abs.Seat
noncomputable section
open Go Go.Abs
set_option maxRecDepth 100000
theorem ndG_mem {lo:Nat} {g:Nat → List (List Nat)} {x:List Nat}:∀ k,x ∈ ndG lo g k ↔ ∃ j,j < k ∧ x ∈ g (lo + j)
 | 0 => ⟨fun h => (nomatch h),fun ⟨_,h,_⟩ => absurd h (Nat.not_lt_zero _)⟩
 |k + 1 => by
  rw [ndG,List.mem_append,ndG_mem k]
  constructor
  ·rintro (⟨j,h1,h2⟩ | h)
   ·exact ⟨j,by omega,h2⟩
   ·exact ⟨k,by omega,h⟩
  ·rintro ⟨j,h1,h2⟩
   by_cases e:j = k
   ·subst e;exact .inr h2
   ·exact .inl ⟨j,by omega,h2⟩
def inSp:List (Nat × Nat) → List Nat → Prop
 | [],[] => True
 |s :: r,n :: t => (s.1 ≤ n ∧ n ≤ s.2) ∧ inSp r t
 | _,_ => False
theorem gsL_mem (nt:List Nat) {x:List Nat}:∀ (r:List (Nat × Nat)) (t:List Nat),x ∈ gsL nt r t ↔ ∃ s,x = t ++ s ∧ inSp r s ∧ bkL x nt nt.length = []
 | [],t => by
  show x ∈ (if bkL t nt nt.length = [] then [t] else []) ↔ _
  constructor
  ·intro h
   by_cases c:bkL t nt nt.length = []
   ·rw [if_pos c] at h
    obtain rfl:x = t :=by simpa using h
    exact ⟨[],(List.append_nil _).symm,trivial,c⟩
   ·rw [if_neg c] at h;exact (nomatch h)
  ·rintro ⟨s,h1,h2,h3⟩
   cases s with
   |nil =>
    rw [List.append_nil] at h1
    subst h1
    rw [if_pos h3];exact List.mem_singleton.2 rfl
   |cons n s => exact h2.elim
 |q :: r,t => by
  show x ∈ ndG q.1 (fun n => gsL nt r (t ++ [n])) (q.2 + 1 - q.1) ↔ _
  rw [ndG_mem]
  constructor
  ·rintro ⟨j,h1,h2⟩
   obtain ⟨s,e,h3,h4⟩ :=(gsL_mem nt r (t ++ [q.1 + j])).1 h2
   exact ⟨(q.1 + j) :: s,by rw [e,List.append_assoc];rfl,⟨⟨by omega,by omega⟩,h3⟩,h4⟩
  ·rintro ⟨s,e,h3,h4⟩
   cases s with
   |nil => exact h3.elim
   |cons n s =>
    refine ⟨n - q.1,by have :=h3.1;omega,(gsL_mem nt r _).2 ⟨s,?_,h3.2,h4⟩⟩
    have :=h3.1
    rw [e,show q.1 + (n - q.1) = n by omega,List.append_assoc];rfl
theorem inSp_len:∀ {r:List (Nat × Nat)} {s:List Nat},inSp r s → s.length = r.length
 | [],[],_ => rfl
 | _ :: _,_ :: _,h => congrArg (· + 1) (inSp_len h.2)
 | [],_ :: _,h => h.elim
 | _ :: _,[],h => h.elim
theorem inSp_get:∀ {r:List (Nat × Nat)} {s:List Nat},inSp r s → ∀ i,i < r.length → (gq r i).1 ≤ gn s i ∧ gn s i ≤ (gq r i).2
 | [],_,_,i,hi => absurd hi (Nat.not_lt_zero _)
 | _ :: _,_ :: _,h,0,_ => h.1
 | _ :: r,_ :: s,h,i + 1,hi => inSp_get (r :=r) (s :=s) h.2 i (by simpa using hi)
 | _ :: _,[],h,_,_ => h.elim
theorem gT_mem {G:List (List Nat)} {i:Nat} (h:i < G.length):gT G i ∈ G :=by
 rw [show gT G i = G[i] by simp [gT,List.getD,h]]
 exact List.getElem_mem h
theorem mem_gT {G:List (List Nat)} {x:List Nat} (h:x ∈ G):∃ i,i < G.length ∧ gT G i = x :=by
 obtain ⟨i,hi,e⟩ :=List.getElem_of_mem h
 exact ⟨i,hi,by simp [gT,List.getD,hi,e]⟩
theorem gs_ok {sp:List (Nat × Nat)} {nt:List Nat} (h:fdOk sp nt) {x:List Nat} (hx:x ∈ gsL nt sp []):tOk x ∧ x.length = sp.length :=by
 obtain ⟨s,e,h1,_⟩ :=(gsL_mem nt sp []).1 hx
 obtain rfl:x = s :=by simpa using e
 have hl :=inSp_len h1
 have l1 :=h.l1
 have l3 :=h.l3
 have ln :=h.ln
 refine ⟨⟨by omega,fun j hj => ?_⟩,hl⟩
 have h2 :=inSp_get h1 j (by omega)
 have h3 :=h.sp j (by omega)
 omega
theorem gs_len {sp:List (Nat × Nat)} {nt:List Nat} (h:fdOk sp nt):(gsL nt sp []).length ≤ 50000 :=by
 have h1 :=gsL_len nt sp [] fun s hs => by
  obtain ⟨i,hi,e⟩ :=List.getElem_of_mem hs
  have :=(h.sp i hi).2.2.2
  rw [show gq sp i = s by simp [gq,List.getD,hi,e]] at this
  exact this
 have hsp:sp.length ≤ 6 :=by have :=h.ln;have :=h.l3;omega
 have hp:6 ^ sp.length ≤ 6 ^ 6 :=Nat.pow_le_pow_right (by decide) hsp
 exact Nat.le_trans h1 (Nat.le_trans hp (by decide))
theorem knI_in (G:List (List Nat)) (i:Nat):∀ k j,j < k → (knI G i k).1 ≤ gn (gT G j) i ∧ gn (gT G j) i ≤ (knI G i k).2
 | 0,j,h => absurd h (Nat.not_lt_zero _)
 |k + 1,j,h => by
  show min _ _ ≤ _ ∧ _ ≤ max _ _
  by_cases e:j = k
  ·subst e;exact ⟨Nat.min_le_right _ _,Nat.le_max_right _ _⟩
  ·have :=knI_in G i k j (by omega)
   exact ⟨Nat.le_trans (Nat.min_le_left _ _) this.1,Nat.le_trans this.2 (Nat.le_max_left _ _)⟩
theorem knL_get (G:List (List Nat)):∀ n i,i < n → gq (knL G n) i = knI G i G.length
 | 0,i,h => absurd h (Nat.not_lt_zero _)
 |n + 1,i,h => by
  have hl :=knL_len G n
  by_cases e:i = n
  ·subst e
   simp only [gq,knL,List.getD]
   rw [List.getElem?_append_right (by omega),hl,Nat.sub_self];rfl
  ·have :=knL_get G n i (by omega)
   rw [← this]
   simp only [gq,knL,List.getD]
   rw [List.getElem?_append_left (by omega)]
def ltF (x y:Nat × Nat):Prop :=x.1 * y.2 < y.1 * x.2
theorem ltF_trans {x y z:Nat × Nat} (hy:1 ≤ y.2) (h1:¬ ltF y x) (h2:¬ ltF z y) (_hx:1 ≤ x.2) (_hz:1 ≤ z.2):¬ ltF z x :=by
 unfold ltF at *
 intro h
 have a1:x.1 * y.2 ≤ y.1 * x.2 :=Nat.not_lt.1 h1
 have a2:y.1 * z.2 ≤ z.1 * y.2 :=Nat.not_lt.1 h2
 have b1:x.1 * y.2 * z.2 ≤ y.1 * x.2 * z.2 :=Nat.mul_le_mul_right _ a1
 have b2:y.1 * z.2 * x.2 ≤ z.1 * y.2 * x.2 :=Nat.mul_le_mul_right _ a2
 have b3:z.1 * x.2 * y.2 < x.1 * z.2 * y.2 :=Nat.mul_lt_mul_of_pos_right h hy
 have e1:x.1 * y.2 * z.2 = x.1 * z.2 * y.2 :=Nat.mul_right_comm _ _ _
 have e2:y.1 * x.2 * z.2 = y.1 * z.2 * x.2 :=Nat.mul_right_comm _ _ _
 have e3:z.1 * y.2 * x.2 = z.1 * x.2 * y.2 :=Nat.mul_right_comm _ _ _
 omega
theorem eqF {x y:Nat × Nat} (gx:Nat.gcd x.1 x.2 = 1) (gy:Nat.gcd y.1 y.2 = 1) (hx:1 ≤ x.2) (h1:¬ ltF x y) (h2:¬ ltF y x):x = y :=by
 have e:x.1 * y.2 = y.1 * x.2 :=by unfold ltF at h1 h2;omega
 have d1:x.2 ∣ y.2 :=Nat.Coprime.dvd_of_dvd_mul_left (k :=x.2) (m :=x.1) (n :=y.2) (Nat.Coprime.symm gx) (e ▸ Nat.dvd_mul_left _ _)
 have d2:y.2 ∣ x.2 :=Nat.Coprime.dvd_of_dvd_mul_left (k :=y.2) (m :=y.1) (n :=x.2) (Nat.Coprime.symm gy) (e ▸ Nat.dvd_mul_left _ _)
 have e2:x.2 = y.2 :=Nat.dvd_antisymm d1 d2
 rw [e2] at e
 have e1:x.1 = y.1 :=Nat.eq_of_mul_eq_mul_right (by omega) e
 exact Prod.ext e1 e2
theorem bsI_mem {bt:Nat × Nat → Nat × Nat → Bool} {G:List (List Nat)}:∀ k,0 < k → ∃ j,j < k ∧ bsI bt G k = rdT (gT G j)
 | 0,h => absurd h (Nat.lt_irrefl _)
 |k + 1,_ => by
  rw [bsI]
  by_cases c:k = 0 ∨ bt (rdT (gT G k)) (bsI bt G k) = true
  ·rw [if_pos c];exact ⟨k,Nat.lt_succ_self _,rfl⟩
  ·rw [if_neg c]
   obtain ⟨j,h1,h2⟩ :=bsI_mem (bt :=bt) (G :=G) k (by omega)
   exact ⟨j,by omega,h2⟩
theorem btB_lt {x y:Nat × Nat}:btB x y = true ↔ ltF x y :=decide_eq_true_iff
theorem btA_lt {x y:Nat × Nat}:btA x y = true ↔ ltF y x :=decide_eq_true_iff
theorem tOk.p {t:List Nat} (h:tOk t):1 ≤ (rdT t).2 :=h.tv.by_.1
theorem bsB_le {G:List (List Nat)} (hG:∀ i,i < G.length → tOk (gT G i)):∀ k j,k ≤ G.length → j < k → ¬ ltF (rdT (gT G j)) (bsI btB G k)
 | 0,j,_,h => absurd h (Nat.not_lt_zero _)
 |k + 1,j,hk,h => by
  rw [bsI]
  by_cases c:k = 0 ∨ btB (rdT (gT G k)) (bsI btB G k) = true
  ·rw [if_pos c]
   by_cases e:j = k
   ·subst e;exact Nat.lt_irrefl _
   ·have c :=c.resolve_left (by omega)
    have ih :=bsB_le hG k j (by omega) (by omega)
    obtain ⟨j2,h1,h2⟩ :=bsI_mem (bt :=btB) (G :=G) k (by omega)
    have hp:1 ≤ (bsI btB G k).2 :=by rw [h2];exact (hG j2 (by omega)).p
    have c :=btB_lt.1 c
    exact ltF_trans (y :=bsI btB G k) hp (fun z => by unfold ltF at c z;omega) ih (hG k hk).p (hG j (by omega)).p
  ·rw [if_neg c]
   by_cases e:j = k
   ·subst e
    exact fun z => c (.inr (btB_lt.2 z))
   ·exact bsB_le hG k j (by omega) (by omega)
theorem bsA_le {G:List (List Nat)} (hG:∀ i,i < G.length → tOk (gT G i)):∀ k j,k ≤ G.length → j < k → ¬ ltF (bsI btA G k) (rdT (gT G j))
 | 0,j,_,h => absurd h (Nat.not_lt_zero _)
 |k + 1,j,hk,h => by
  rw [bsI]
  by_cases c:k = 0 ∨ btA (rdT (gT G k)) (bsI btA G k) = true
  ·rw [if_pos c]
   by_cases e:j = k
   ·subst e;exact Nat.lt_irrefl _
   ·have c :=c.resolve_left (by omega)
    have ih :=bsA_le hG k j (by omega) (by omega)
    obtain ⟨j2,h1,h2⟩ :=bsI_mem (bt :=btA) (G :=G) k (by omega)
    have hp:1 ≤ (bsI btA G k).2 :=by rw [h2];exact (hG j2 (by omega)).p
    have c :=btA_lt.1 c
    exact ltF_trans (y :=bsI btA G k) hp ih (fun z => by unfold ltF at c z;omega) (hG j (by omega)).p (hG k hk).p
  ·rw [if_neg c]
   by_cases e:j = k
   ·subst e
    exact fun z => c (.inr (btA_lt.2 z))
   ·exact bsA_le hG k j (by omega) (by omega)
theorem teL_all:∀ {L:List (Nat × Nat)},AllT tN L → ∀ t,t ∈ teL L → 4 ≤ t ∧ t ≤ 60
 | [],_,_,h => (nomatch h)
 |p :: r,h,t,ht => by
  rw [teL,List.mem_cons,List.mem_cons] at ht
  rcases ht with rfl | rfl | ht
  ·exact h.1.1
  ·exact h.1.2
  ·exact teL_all h.2 t ht
theorem gn_all {T:List Nat} (h:∀ t,t ∈ T → 4 ≤ t ∧ t ≤ 60) {i:Nat} (hi:i < T.length):4 ≤ gn T i ∧ gn T i ≤ 60 :=by
 refine h _ ?_
 rw [show gn T i = T[i] by simp [gn,List.getD,hi]]
 exact List.getElem_mem hi
theorem spT_len (l m:Nat) (T:List Nat):(spT l m T).length = T.length :=List.length_map _
theorem spT_get (l m:Nat) (T:List Nat) {i:Nat} (hi:i < T.length):gq (spT l m T) i = (max 4 (gn T i - l),min 60 (gn T i + m)) :=by
 simp [gq,gn,spT,List.getD,hi]
theorem smL_len (L:List (Nat × Nat)):(smL L).length = L.length :=List.length_map _
theorem smL_get:∀ (L:List (Nat × Nat)) (i:Nat),i < L.length → smP (teL L) i = gn (smL L) i
 | [],i,h => absurd h (Nat.not_lt_zero _)
 | _ :: _,0,_ => rfl
 | _ :: r,i + 1,h => smL_get r i (by simpa using h)
theorem inSp_T (l m:Nat):∀ {T:List Nat},(∀ t,t ∈ T → 4 ≤ t ∧ t ≤ 60) → inSp (spT l m T) T
 | [],_ => trivial
 |t :: r,h => by
  have h1 :=h t (List.mem_cons_self ..)
  refine ⟨?_,inSp_T l m fun x hx => h x (List.mem_cons_of_mem _ hx)⟩
  show max 4 (t - l) ≤ t ∧ t ≤ min 60 (t + m)
  omega
theorem gn_smL {L:List (Nat × Nat)} (h:AllT tN L) {i:Nat} (hi:i < L.length):1 ≤ gn (smL L) i ∧ gn (smL L) i ≤ 120 :=by
 rw [← smL_get L i hi]
 have hl :=teL_len L
 have h1 :=gn_all (teL_all h) (i :=2 * i) (by omega)
 have h2 :=gn_all (teL_all h) (i :=2 * i + 1) (by omega)
 unfold smP
 omega
theorem fd_own {L:List (Nat × Nat)} (h:AllT tN L) (hL:1 ≤ L.length ∧ L.length ≤ 3) {l m:Nat} (hlm:l + m ≤ 5):fdOk (spT l m (teL L)) (smL L) :=by
 have hl :=teL_len L
 refine ⟨by rw [smL_len];exact hL.1,by rw [smL_len];exact hL.2,by rw [spT_len,smL_len,hl],fun i hi => ?_,fun i hi => ?_⟩
 ·rw [spT_len] at hi
  have h1 :=gn_all (teL_all h) hi
  rw [spT_get l m _ hi]
  show 4 ≤ max 4 _ ∧ max 4 _ ≤ min 60 _ ∧ min 60 _ ≤ 60 ∧ min 60 _ ≤ max 4 _ + 5
  omega
 ·rw [smL_len] at hi
  exact gn_smL h hi
theorem bk_own (L:List (Nat × Nat)):bkL (teL L) (smL L) (smL L).length = [] :=
 (bkL_nil _ _ _).2 fun j hj => smL_get L j (by rw [smL_len] at hj;exact hj)
theorem own_mem {L:List (Nat × Nat)} (h:AllT tN L) (l m:Nat):teL L ∈ gsL (smL L) (spT l m (teL L)) [] :=
 (gsL_mem _ _ _).2 ⟨teL L,rfl,inSp_T l m (teL_all h),bk_own L⟩
theorem own_in {L:List (Nat × Nat)} (h:AllT tN L) (l m:Nat):∀ i,i < (spT l m (teL L)).length → (gq (spT l m (teL L)) i).1 ≤ gn (teL L) i ∧ gn (teL L) i ≤ (gq (spT l m (teL L)) i).2 :=inSp_get (inSp_T l m (teL_all h))
end
end Go.Abs.Seat
