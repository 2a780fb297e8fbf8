/-
  Sharings: the program's order is the document's; what is found, and the best of it.
-/
import Derived.Test.YtpjclnoehlflcaaGreatDoorT80
namespace Go.Abs.Seat
noncomputable section
open Go Go.Abs Go.Proofs.Tryz
set_option maxRecDepth 100000
set_option maxHeartbeats 40000000
attribute [local irreducible] IntKind.wrap pEq
structure Cmp {α:Type} (c:α → α → Int):Prop where
 eq:∀ a b,c a b = 0 ↔ a = b
 neg:∀ a b,c b a = -c a b
 tr:∀ a b d,c a b < 0 → c b d < 0 → c a d < 0
def lexC {α:Type} (c:α → α → Int):List α → List α → Int
 | [],[] => 0
 | [],_ :: _ => -1
 | _ :: _,[] => 1
 |p :: r,q :: s => if c p q = 0 then lexC c r s else c p q
theorem Cmp.lex {α:Type} {c:α → α → Int} (h:Cmp c):Cmp (lexC c) :=by
 refine ⟨?_,?_,?_⟩
 ·intro a
  induction a with
  |nil => intro b;cases b with
   |nil => exact ⟨fun _ => rfl,fun _ => rfl⟩
   |cons _ _ => exact ⟨fun z => absurd z (show ¬ (-1:Int) = 0 by decide),fun z => nomatch z⟩
  |cons p r ih => intro b;cases b with
   |nil => exact ⟨fun z => absurd z (show ¬ (1:Int) = 0 by decide),fun z => nomatch z⟩
   |cons q s =>
    rw [lexC]
    by_cases e:c p q = 0
    ·rw [if_pos e,ih,(h.eq p q).1 e]
     exact ⟨fun z => by rw [z],fun z => (List.cons.inj z).2⟩
    ·rw [if_neg e]
     exact ⟨fun z => absurd z e,fun z => absurd ((h.eq p q).2 (List.cons.inj z).1) e⟩
 ·intro a
  induction a with
  |nil => intro b;cases b with
   |nil => rfl
   |cons _ _ => rfl
  |cons p r ih => intro b;cases b with
   |nil => rfl
   |cons q s =>
    rw [lexC,lexC,h.neg p q,ih]
    by_cases e:c p q = 0
    ·rw [if_pos e,if_pos (by omega)]
    ·rw [if_neg e,if_neg (by omega)]
 ·intro a
  induction a with
  |nil => intro b d h1 h2;cases b with
   |nil => exact absurd h1 (show ¬ (0:Int) < 0 by decide)
   |cons _ _ => cases d with
    |nil => exact absurd h2 (show ¬ (1:Int) < 0 by decide)
    |cons _ _ => exact (show (-1:Int) < 0 by decide)
  |cons p r ih => intro b d h1 h2;cases b with
   |nil => exact absurd h1 (show ¬ (1:Int) < 0 by decide)
   |cons q s => cases d with
    |nil => exact absurd h2 (show ¬ (1:Int) < 0 by decide)
    |cons x w =>
     rw [lexC] at h1 h2 ⊢
     by_cases e:c p q = 0
     ·rw [if_pos e] at h1
      have e' :=(h.eq p q).1 e
      subst e'
      by_cases e2:c p x = 0
      ·rw [if_pos e2] at h2 ⊢
       exact ih _ _ h1 h2
      ·rw [if_neg e2] at h2 ⊢
       exact h2
     ·rw [if_neg e] at h1
      by_cases e2:c q x = 0
      ·have e' :=(h.eq q x).1 e2
       subst e'
       rw [if_neg e]
       exact h1
      ·rw [if_neg e2] at h2
       have :=h.tr _ _ _ h1 h2
       rw [if_neg (by omega)]
       exact this
def ordQ (p q:Nat × Nat):Int :=ordP (Int.ofNat p.1) (Int.ofNat p.2) (Int.ofNat q.1) (Int.ofNat q.2)
theorem cmOQ:Cmp ordQ :=by
 refine ⟨fun _ _ => qip,fun a b => ?_,fun a b d h1 h2 => ?_⟩
 ·unfold ordQ ordP
  rw [qp2 (Int.ofNat a.1),qp2 (Int.ofNat a.2)]
  split <;> split <;> omega
 ·have h1 :=qio.1 h1
  have h2 :=qio.1 h2
  refine qio.2 ?_
  unfold ltQ at *
  omega
theorem qt8:∀ u v,lexQ u v = lexC ordQ u v
 | [],[] => rfl
 | [],_ :: _ => rfl
 | _ :: _,[] => rfl
 |p :: r,q :: s => by rw [lexQ,lexC,qt8 r s];rfl
theorem cmpL:Cmp lexQ :=by
 rw [show lexQ = lexC ordQ from funext fun u => funext fun v => qt8 u v]
 exact cmOQ.lex
theorem qp9:∀ u v,qe1 u v = lexC lexQ u v
 | [],[] => rfl
 | [],_ :: _ => rfl
 | _ :: _,[] => rfl
 |p :: r,q :: s => by rw [qe1,lexC,qp9 r s]
theorem q0e:Cmp qe1 :=by
 rw [show qe1 = lexC lexQ from funext fun u => funext fun v => qp9 u v]
 exact cmpL.lex
theorem qk6 {a b:Sh}:ordS a b < 0 ↔ a.2.1 < b.2.1 ∨ a.2.1 = b.2.1 ∧ (a.2.2 < b.2.2 ∨ a.2.2 = b.2.2 ∧ qe1 a.1 b.1 < 0) :=by
 unfold ordS ordI
 simp only [Int.ofNat_eq_natCast]
 repeat' split
 all_goals omega
theorem cmpS:Cmp ordS :=by
 refine ⟨fun a b => ?_,fun a b => ?_,fun a b d h1 h2 => ?_⟩
 ·have :=q0e.eq a.1 b.1
  obtain ⟨a1,a2,a3⟩ :=a
  obtain ⟨b1,b2,b3⟩ :=b
  rw [Prod.mk.injEq,Prod.mk.injEq,← this]
  unfold ordS ordI
  simp only [Int.ofNat_eq_natCast]
  repeat' split
  all_goals omega
 ·have :=q0e.neg a.1 b.1
  unfold ordS ordI
  simp only [Int.ofNat_eq_natCast]
  repeat' split
  all_goals omega
 ·have :=q0e.tr a.1 b.1 d.1
  have h1 :=qk6.1 h1
  have h2 :=qk6.1 h2
  refine qk6.2 ?_
  omega
theorem qkg:∀ u v,sooB u v = decide (lexQ u v < 0)
 | [],[] => rfl
 | [],_ :: _ => rfl
 | _ :: _,[] => rfl
 |p :: r,q :: s => by
  rw [sooB,lexQ,qkg r s]
  by_cases e:p = q
  ·rw [if_pos e,if_pos (qip.2 e)]
  ·rw [if_neg e,if_neg fun k => e (qip.1 k),Bool.eq_iff_iff,decide_eq_true_iff,decide_eq_true_iff,qio]
theorem qql:∀ {a b:List (List (Nat × Nat))},a.length = b.length → earB a b = decide (qe1 a b < 0)
 | [],[],_ => rfl
 | [],_ :: _,h => by cases h
 | _ :: _,[],h => by cases h
 |p :: r,q :: s,h => by
  have hn :=cmpL.neg p q
  rw [earB,qe1,qkg p q,qkg q p,qql (a :=r) (b :=s) (by simpa using h)]
  by_cases e:lexQ p q = 0
  ·rw [if_pos e,if_neg (by rw [e];decide),if_neg (by rw [hn,e];decide)]
  ·rw [if_neg e]
   by_cases e2:lexQ p q < 0
   ·rw [if_pos (zT e2),zT e2]
   ·rw [if_neg (by rw [zF e2];decide),if_pos (zT (by omega)),zF e2]
theorem qpr {t:Nat} {fs:List (Nat × Nat)} {a b:List (List (Nat × Nat))} (h:a.length = b.length):prfB t fs a b = decide (ordS (a,wrA t 0 fs a,smA 0 a) (b,wrA t 0 fs b,smA 0 b) < 0) :=by
 rw [Bool.eq_iff_iff,decide_eq_true_iff,qk6]
 show _ ↔ (wrA t 0 fs a < wrA t 0 fs b ∨ wrA t 0 fs a = wrA t 0 fs b ∧ (smA 0 a < smA 0 b ∨ smA 0 a = smA 0 b ∧ qe1 a b < 0))
 unfold prfB
 by_cases h1:wrA t 0 fs a = wrA t 0 fs b
 ·rw [if_pos h1]
  by_cases h2:smA 0 a = smA 0 b
  ·rw [if_pos h2,qql h,decide_eq_true_iff]
   omega
  ·rw [if_neg h2,decide_eq_true_iff]
   omega
 ·rw [if_neg h1,decide_eq_true_iff]
  omega
theorem qvg:∀ (l:List Sh) (x:Sh),x ∈ l → ¬ ordS x (qc2 l) < 0 :=by
 intro l x hx
 cases l with
 |nil => cases hx
 |cons a r =>
  have irr:∀ a:Sh,¬ ordS a a < 0 :=fun a => by rw [(cmpS.eq a a).2 rfl];decide
  have key:∀ (r:List Sh) (o:Sh),(ordS (r.foldl (fun o y => if ordS y o < 0 then y else o) o) o < 0 ∨ r.foldl (fun o y => if ordS y o < 0 then y else o) o = o) ∧ ∀ y,y ∈ r → ¬ ordS y (r.foldl (fun o y => if ordS y o < 0 then y else o) o) < 0 :=by
   intro r
   induction r with
   |nil => exact fun o => ⟨.inr rfl,fun _ z => nomatch z⟩
   |cons y r ih =>
    intro o
    rw [List.foldl_cons]
    have h :=ih (if ordS y o < 0 then y else o)
    generalize (r.foldl (fun o y => if ordS y o < 0 then y else o) (if ordS y o < 0 then y else o)) = z at h ⊢
    by_cases c:ordS y o < 0
    ·rw [if_pos c] at h
     refine ⟨.inl ?_,fun w hw => ?_⟩
     ·rcases h.1 with k | k
      ·exact cmpS.tr _ _ _ k c
      ·rw [k];exact c
     ·rcases List.mem_cons.1 hw with e | e
      ·subst e
       intro q
       rcases h.1 with k | k
       ·exact irr _ (cmpS.tr _ _ _ q k)
       ·rw [k] at q;exact irr _ q
      ·exact h.2 w e
    ·rw [if_neg c] at h
     refine ⟨h.1,fun w hw => ?_⟩
     rcases List.mem_cons.1 hw with e | e
     ·subst e
      intro q
      rcases h.1 with k | k
      ·exact c (cmpS.tr _ _ _ q k)
      ·rw [k] at q;exact c q
     ·exact h.2 w e
  have h :=key r a
  rcases List.mem_cons.1 hx with e | e
  ·subst e
   intro q
   show False
   have q:ordS x (r.foldl (fun o y => if ordS y o < 0 then y else o) x) < 0 :=q
   rcases h.1 with k | k
   ·exact irr _ (cmpS.tr _ _ _ q k)
   ·rw [k] at q;exact irr _ q
  ·exact h.2 x e
def pckd (tr:Nat → Nat × Nat → Option (List (Nat × Nat))) (P:Nat):List (Nat × Nat) → List (List (Nat × Nat)) → Prop
 | [],[] => True
 |f :: r,u :: us => (∃ n,(1 ≤ n ∧ n ≤ P) ∧ tr n f = some u) ∧ pckd tr P r us
 | _,_ => False
theorem qxw:∀ (us:List (List (Nat × Nat))) (a:Nat),a ≤ smA a us
 | [],a => Nat.le_refl a
 |u :: r,a => by rw [smA];have :=qxw r (a + u.length);omega
theorem qf4 {tr:Nat → Nat × Nat → Option (List (Nat × Nat))} {P q t:Nat}:∀ (r:List (Nat × Nat)) (now x:Sh),x ∈ srch tr P q t r now ↔ ∃ us,pckd tr P r us ∧ smA now.2.2 us ≤ q ∧ x = (now.1 ++ us,wrA t now.2.1 r us,smA now.2.2 us)
 | [],now,x => by
  rw [srch]
  constructor
  ·intro h
   split at h
   ·cases h
   ·rename_i h1
    rw [List.mem_singleton.1 h]
    exact ⟨[],trivial,by rw [smA];omega,by rw [List.append_nil,smA];rfl⟩
  ·rintro ⟨us,h1,h2,rfl⟩
   cases us with
   |nil =>
    rw [smA] at h2
    rw [if_neg (by omega),List.append_nil,smA]
    exact List.mem_singleton.2 rfl
   |cons _ _ => exact h1.elim
 |f :: r,now,x => by
  rw [srch]
  constructor
  ·intro h
   split at h
   ·cases h
   ·obtain ⟨n,h1,h2,h3⟩ :=qhs.1 h
    cases e:tr n f with
    |none => rw [e] at h3;cases h3
    |some u =>
     rw [e] at h3
     obtain ⟨us,k1,k2,k3⟩ :=(qf4 r _ x).1 h3
     exact ⟨u :: us,⟨⟨n,⟨h1,h2⟩,e⟩,k1⟩,k2,by rw [k3,List.append_assoc];rfl⟩
  ·rintro ⟨us,h1,h2,rfl⟩
   cases us with
   |nil => exact h1.elim
   |cons u us =>
    obtain ⟨⟨n,⟨k1,k2⟩,e⟩,h1⟩ :=h1
    rw [smA] at h2
    have :=qxw us (now.2.2 + u.length)
    rw [if_neg (by omega)]
    refine qhs.2 ⟨n,k1,k2,?_⟩
    rw [e]
    exact (qf4 r _ _).2 ⟨us,h1,h2,by rw [List.append_assoc];rfl⟩
theorem qn4 {tr:Nat → Nat × Nat → Option (List (Nat × Nat))} {P:Nat} {fs:List (Nat × Nat)} (ht:Trn tr P fs):∀ (r:List (Nat × Nat)) (us:List (List (Nat × Nat))),(∀ f,f ∈ r → f ∈ fs) → pckd tr P r us → us.length = r.length ∧ ∀ u,u ∈ us → gT u
 | [],[],_,_ => ⟨rfl,fun _ h => nomatch h⟩
 | [],_ :: _,_,h => h.elim
 | _ :: _,[],_,h => h.elim
 |f :: r,u :: us,hr,h => by
  obtain ⟨⟨n,⟨h1,h2⟩,e⟩,h3⟩ :=h
  have hT :=ht.tv n f u h1 h2 (hr f List.mem_cons_self) e
  have k :=qn4 ht r us (fun g hg => hr g (List.mem_cons_of_mem _ hg)) h3
  exact ⟨by rw [List.length_cons,k.1];rfl,fun w hw => by
   rcases List.mem_cons.1 hw with z | z
   ·subst z;exact hT
   ·exact k.2 w z⟩
end
end Go.Abs.Seat
