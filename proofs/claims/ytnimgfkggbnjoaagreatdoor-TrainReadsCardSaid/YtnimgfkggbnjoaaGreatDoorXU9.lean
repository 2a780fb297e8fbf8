/-
  The document's first train.
-/
import Derived.Test.YtnimgfkggbnjoaaGreatDoorXT36
import Derived.Test.YtnimgfkggbnjoaaGreatDoorXU8
import Derived.Test.YtnimgfkggbnjoaaGreatDoorXU5
import Derived.Test.YtnimgfkggbnjoaaGreatDoorXU4
namespace Go.Abs.Seat
noncomputable section
open Go Go.Abs Go.Proofs.Tryz
set_option maxRecDepth 100000
set_option maxHeartbeats 40000000
attribute [local irreducible] IntKind.wrap pEq
def zp (t:List (Nat × Nat)):List (Int × Int) :=t.map fun p => (Int.ofNat p.1,Int.ofNat p.2)
theorem qew (t:List (Nat × Nat)):(zp t).length = t.length :=List.length_map _
theorem qa5 {x:Nat} {c:Bool} {E:Env} {S:Sub} {o:Oper} {K:KE} {tm:Tr AV} {df:List ADf} {pm:APm} {rd:Bool} {h:Tr AObj} {n b:Nat} {wr:List Nat} (hc:c = true) (hk:qm0 E S o K tm df pm rd h n b wr):@Bool.rec (fun _ => KO) qij qm0 (@Bool.rec (fun _ => Bool) (@Bool.rec (fun _ => Bool) true false (x,true).snd) (x,true).snd c) E S o K tm df pm rd h n b wr :=by subst hc;exact hk
theorem qa9 {x:Nat} {c:Bool} {E:Env} {S:Sub} {o:Oper} {K:KE} {tm:Tr AV} {df:List ADf} {pm:APm} {rd:Bool} {h:Tr AObj} {n b:Nat} {wr:List Nat} (hc:c = false) (hk:qij E S o K tm df pm rd h n b wr):@Bool.rec (fun _ => KO) qij qm0 (@Bool.rec (fun _ => Bool) (@Bool.rec (fun _ => Bool) true false (x,true).snd) (x,true).snd c) E S o K tm df pm rd h n b wr :=by subst hc;exact hk
theorem qbc {x:Nat} {c:Bool} {E:Env} {S:Sub} {o:Oper} {K:KE} {tm:Tr AV} {df:List ADf} {pm:APm} {rd:Bool} {h:Tr AObj} {n b:Nat} {wr:List Nat} (hc:c = false) (hk:qm0 E S o K tm df pm rd h n b wr):@Bool.rec (fun _ => KO) qij qm0 (@Bool.rec (fun _ => Bool) (@Bool.rec (fun _ => Bool) true false (x,false).snd) (x,false).snd c) E S o K tm df pm rd h n b wr :=by subst hc;exact hk
theorem qa4 {x:Nat} {c:Bool} {E:Env} {S:Sub} {o:Oper} {K:KE} {tm:Tr AV} {df:List ADf} {pm:APm} {rd:Bool} {h:Tr AObj} {n b:Nat} {wr:List Nat} (hc:c = true) (hk:qij E S o K tm df pm rd h n b wr):@Bool.rec (fun _ => KO) qij qm0 (@Bool.rec (fun _ => Bool) (@Bool.rec (fun _ => Bool) true false (x,false).snd) (x,false).snd c) E S o K tm df pm rd h n b wr :=by subst hc;exact hk
theorem qyw {t:Bool} {a b:AV} (h:t = true):qlj (.bool t) a b = Plan.ret a :=by subst h;rfl
theorem qyx {t:Bool} {a b:AV} (h:t = false):qlj (.bool t) a b = Plan.ret b :=by subst h;rfl
theorem pkT {t:Bool} {a b:AV} {y:Bool} {s n:Nat} {h:Tr AObj} {K:KP} (e:t = true) (k:runP (Plan.ret a) y s h n K):runP (qlj (.bool t) a b) y s h n K :=qa2 (qyw e) k
theorem pkF {t:Bool} {a b:AV} {y:Bool} {s n:Nat} {h:Tr AObj} {K:KP} (e:t = false) (k:runP (Plan.ret b) y s h n K):runP (qlj (.bool t) a b) y s h n K :=qa2 (qyx e) k
end
end Go.Abs.Seat
namespace Go.Abs.Seat
def xP:List (Nat × Nat) → Nat
 | [] => 1
 |p :: r => p.1 * xP r
def yP:List (Nat × Nat) → Nat
 | [] => 1
 |p :: r => p.2 * yP r
def AllT (tp:Nat → Prop):List (Nat × Nat) → Prop
 | [] => True
 |p :: r => (tp p.1 ∧ tp p.2) ∧ AllT tp r
def Ch:Nat × Nat → List (Nat × Nat) → Prop
 | _,[] => True
 |f,p :: r => ¬ ltQ p f ∧ Ch p r
def insQ (p:Nat × Nat):List (Nat × Nat) → List (Nat × Nat)
 | [] => [p]
 |q :: r => if ltQ q p then q :: insQ p r else p :: q :: r
theorem qop (p:Nat × Nat):∀ l,(insQ p l).length = l.length + 1
 | [] => rfl
 |q :: r => by
  rw [insQ]
  split
  ·rw [List.length_cons,qop p r,List.length_cons]
  ·rfl
theorem qv5 (p:Nat × Nat):∀ l,xP (insQ p l) = p.1 * xP l ∧ yP (insQ p l) = p.2 * yP l
 | [] => ⟨rfl,rfl⟩
 |q :: r => by
  have ih :=qv5 p r
  rw [insQ]
  split
  ·rw [xP,xP,yP,yP,ih.1,ih.2]
   exact ⟨Nat.mul_left_comm _ _ _,Nat.mul_left_comm _ _ _⟩
  ·exact ⟨rfl,rfl⟩
theorem qoq {tp:Nat → Prop} {p:Nat × Nat} (hp:tp p.1 ∧ tp p.2):∀ {l:List (Nat × Nat)},AllT tp l → AllT tp (insQ p l)
 | [],_ => ⟨hp,trivial⟩
 |q :: r,h => by
  rw [insQ]
  split
  ·exact ⟨h.1,qoq hp h.2⟩
  ·exact ⟨hp,h⟩
theorem qsh {p:Nat × Nat}:∀ {l:List (Nat × Nat)} {f:Nat × Nat},¬ ltQ p f → Ch f l → Ch f (insQ p l)
 | [],_,h,_ => ⟨h,trivial⟩
 |q :: r,f,h,k => by
  rw [insQ]
  split
  ·rename_i e
   exact ⟨k.1,qsh (fun e2 => qxr _ (qr5 e e2)) k.2⟩
  ·rename_i e
   exact ⟨h,e,k.2⟩
structure Tk (tp:Nat → Prop) (k:Nat) (t:List (Nat × Nat)):Prop where
 len:t.length = k
 all:AllT tp t
 ch:Ch (0,0) t
theorem Tk.ex {tp:Nat → Prop}:∀ {k x y:Nat},qq8 tp k x → qq8 tp k y → ∃ t,Tk tp k t ∧ xP t = x ∧ yP t = y
 | 0,x,y,h1,h2 => by
  rw [qq8] at h1 h2
  exact ⟨[],⟨rfl,trivial,trivial⟩,h1.symm,h2.symm⟩
 |k + 1,x,y,h1,h2 => by
  rw [qq8] at h1 h2
  obtain ⟨x',n,a1,a2,rfl⟩ :=h1
  obtain ⟨y',m,b1,b2,rfl⟩ :=h2
  obtain ⟨t,ht,rfl,rfl⟩ :=Tk.ex a1 b1
  have hx :=qv5 (n,m) t
  refine ⟨insQ (n,m) t,⟨by rw [qop,ht.len],qoq ⟨a2,b2⟩ ht.all,qsh (by unfold ltQ;simp) ht.ch⟩,?_,?_⟩
  ·rw [hx.1,Nat.mul_comm]
  ·rw [hx.2,Nat.mul_comm]
def dT (N D:Nat) (t:List (Nat × Nat)):Nat × Nat :=dQ N D (xP t,yP t)
def Btr (N D:Nat) (t u:List (Nat × Nat)):Prop :=¬ fle (dT N D u) (dT N D t) ∨ fle (dT N D t) (dT N D u) ∧ (t.length < u.length ∨ t.length = u.length ∧ ltL t u)
def RT (tp:Nat → Prop) (P:Nat) (lets:Nat → Prop) (t:List (Nat × Nat)):Prop :=(1 ≤ t.length ∧ t.length ≤ P) ∧ lets t.length ∧ Tk tp t.length t
def Bst (tp:Nat → Prop) (P:Nat) (lets:Nat → Prop) (N D:Nat) (t:List (Nat × Nat)):Prop :=RT tp P lets t ∧ ∀ u,RT tp P lets u → ¬ Btr N D u t
theorem Bst.uniq {tp:Nat → Prop} {P:Nat} {lets:Nat → Prop} {N D:Nat} {t u:List (Nat × Nat)} (h:Bst tp P lets N D t) (k:Bst tp P lets N D u):t = u :=by
 have h1 :=h.2 u k.1
 have h2 :=k.2 t h.1
 unfold Btr at h1 h2
 have a1:fle (dT N D t) (dT N D u) :=Classical.byContradiction fun e => h1 (.inl e)
 have a2:fle (dT N D u) (dT N D t) :=Classical.byContradiction fun e => h2 (.inl e)
 have b1:¬ (u.length < t.length ∨ u.length = t.length ∧ ltL u t) :=fun e => h1 (.inr ⟨a2,e⟩)
 have b2:¬ (t.length < u.length ∨ t.length = u.length ∧ ltL t u) :=fun e => h2 (.inr ⟨a1,e⟩)
 have hl:t.length = u.length :=by
  have:¬ u.length < t.length :=fun e => b1 (.inl e)
  have:¬ t.length < u.length :=fun e => b2 (.inl e)
  omega
 rcases qr6 hl with e | e | e
 ·exact absurd (.inr ⟨hl,e⟩) b2
 ·exact e
 ·exact absurd (.inr ⟨hl.symm,e⟩) b1
def Opt (tp:Nat → Prop) (N D k:Nat) (t:List (Nat × Nat)):Prop :=Tk tp k t ∧ ∀ u,Tk tp k u → fle (dT N D t) (dT N D u) ∧ (fle (dT N D u) (dT N D t) → ¬ ltL u t)
theorem RT.lift {tp:Nat → Prop} {P:Nat} {lets:Nat → Prop} {t:List (Nat × Nat)}:RT tp (P + 1) lets t ↔ RT tp P lets t ∨ lets (P + 1) ∧ Tk tp (P + 1) t :=by
 unfold RT
 constructor
 ·rintro ⟨⟨h1,h2⟩,h3,h4⟩
  by_cases e:t.length = P + 1
  ·rw [e] at h3 h4
   exact .inr ⟨h3,h4⟩
  ·exact .inl ⟨⟨h1,by omega⟩,h3,h4⟩
 ·rintro (⟨⟨h1,h2⟩,h3,h4⟩ | ⟨h3,h4⟩)
  ·exact ⟨⟨h1,by omega⟩,h3,h4⟩
  ·rw [h4.len]
   exact ⟨⟨by omega,Nat.le_refl _⟩,h3,h4⟩
def BO (tp:Nat → Prop) (P:Nat) (lets:Nat → Prop) (N D:Nat) (o:Option (List (Nat × Nat))):Prop :=
 match o with
 |none => ∀ t,¬ RT tp P lets t
 |some t => Bst tp P lets N D t
theorem BO.uniq {tp:Nat → Prop} {P:Nat} {lets:Nat → Prop} {N D:Nat} {o r:Option (List (Nat × Nat))} (h:BO tp P lets N D o) (k:BO tp P lets N D r):o = r :=by
 cases o <;> cases r
 ·rfl
 ·exact absurd k.1 (h _)
 ·exact absurd h.1 (k _)
 ·rw [Bst.uniq h k]
theorem BO.same {tp:Nat → Prop} {P:Nat} {lets:Nat → Prop} {N D:Nat} {o:Option (List (Nat × Nat))} (h:BO tp P lets N D o) (k:¬ (lets (P + 1) ∧ ∃ t,Tk tp (P + 1) t)):BO tp (P + 1) lets N D o :=by
 have e:∀ t,RT tp (P + 1) lets t ↔ RT tp P lets t :=fun t => by
  rw [RT.lift]
  exact ⟨fun h => h.resolve_right fun h => k ⟨h.1,t,h.2⟩,.inl⟩
 cases o with
 |none => exact fun t ht => h t ((e t).1 ht)
 |some t => exact ⟨(e t).2 h.1,fun u hu => h.2 u ((e u).1 hu)⟩
theorem qqg {tp:Nat → Prop} (h1:∀ n,tp n → 1 ≤ n):∀ {t:List (Nat × Nat)},AllT tp t → 1 ≤ yP t
 | [],_ => Nat.le_refl _
 | _ :: _,h => Nat.mul_pos (h1 _ h.1.2) (qqg h1 h.2)
theorem Opt.bst {tp:Nat → Prop} {P:Nat} {lets:Nat → Prop} {N D:Nat} (_h1:∀ n,tp n → 1 ≤ n) {u:List (Nat × Nat)} (hl:lets (P + 1)) (hu:Opt tp N D (P + 1) u) (hb:∀ t,RT tp P lets t → ¬ fle (dT N D t) (dT N D u)):Bst tp (P + 1) lets N D u :=by
 refine ⟨RT.lift.2 (.inr ⟨hl,hu.1⟩),fun t ht hbt => ?_⟩
 rcases RT.lift.1 ht with k | ⟨_,k⟩
 ·have q1 :=hb t k
  rcases hbt with e | e
  ·exact q1 ((qxz _ _).resolve_left e)
  ·exact q1 e.1
 ·have q1 :=hu.2 t k
  rcases hbt with e | ⟨e1,e2⟩
  ·exact e q1.1
  ·rcases e2 with e2 | e2
   ·rw [k.len,hu.1.len] at e2;omega
   ·exact q1.2 e1 e2.2
theorem BO.new {tp:Nat → Prop} {P:Nat} {lets:Nat → Prop} {N D:Nat} (h1:∀ n,tp n → 1 ≤ n) {o:Option (List (Nat × Nat))} (h:BO tp P lets N D o) {u:List (Nat × Nat)} (hl:lets (P + 1)) (hu:Opt tp N D (P + 1) u) (hb:∀ t,o = some t → ¬ fle (dT N D t) (dT N D u)):BO tp (P + 1) lets N D (some u) :=by
 refine hu.bst h1 hl fun t ht => ?_
 cases o with
 |none => exact absurd ht (h t)
 |some s =>
  have q1 :=hb s rfl
  intro e
  have q2 :=h.2 t ht
  have q3:fle (dT N D s) (dT N D t) :=Classical.byContradiction fun e => q2 (.inl e)
  exact q1 (qo0 (b :=dT N D t) (qqg h1 ht.2.2.all) q3 e)
theorem BO.old {tp:Nat → Prop} {P:Nat} {lets:Nat → Prop} {N D:Nat} (h1:∀ n,tp n → 1 ≤ n) {t u:List (Nat × Nat)} (h:BO tp P lets N D (some t)) (hu:Opt tp N D (P + 1) u) (hb:fle (dT N D t) (dT N D u)):BO tp (P + 1) lets N D (some t) :=by
 refine ⟨RT.lift.2 (.inl h.1),fun s hs hbt => ?_⟩
 rcases RT.lift.1 hs with k | ⟨_,k⟩
 ·exact h.2 s k hbt
 ·have q1 :=(hu.2 s k).1
  have q2 :=qo0 (b :=dT N D u) (qqg h1 hu.1.all) hb q1
  rcases hbt with e | ⟨_,e⟩
  ·exact e q2
  ·have :=h.1.1
   have :=k.len
   rcases e with e | e
   ·omega
   ·omega
end Go.Abs.Seat
/-! The document's nearest train: plain. -/
namespace Go.Abs.Seat
section
variable {tp:Nat → Prop} (h1:∀ n,tp n → 1 ≤ n ∧ n ≤ 60) {a:Nat} (ha:∀ n,tp n → a ≤ n) {k M N D:Nat} (hD:1 ≤ D) (hM:60 ^ k < M)
include h1 ha hD hM
end
end Go.Abs.Seat

namespace Go.Abs.Seat

end Go.Abs.Seat
namespace Go.Abs.Seat
noncomputable section
open Go Go.Abs Go.Proofs.Tryz
set_option maxRecDepth 100000
set_option maxHeartbeats 40000000
attribute [local irreducible] IntKind.wrap pEq
def gq (l:List (Nat × Nat)) (i:Nat):Nat × Nat :=l.getD i (0,0)
theorem qne (l:List (Nat × Nat)) {i:Nat} (h:i < l.length):l.drop i = gq l i :: l.drop (i + 1) :=by
 rw [List.drop_eq_getElem_cons h]
 simp [gq,List.getD,h]
theorem eqQ (ty:TypeId) (hty:ty = 47 ∨ ty = 74) (cst:Bool) (a b c d:Int):q0 ty cst (fv a b) (fv c d) = @Bool.rec (fun _ => Option Bool) (some false) (@Bool.rec (fun _ => Option Bool) (some false) (some true) (b == d)) (a == c) :=by
 rcases hty with rfl | rfl
 ·kernel_rfl
 ·kernel_rfl
theorem qu9 {ty:TypeId} (hty:ty = 47 ∨ ty = 74) (cst:Bool) (a b:Int):q0 ty cst (fv a b) (fv a b) = some true :=by
 rw [eqQ ty hty,show (a == a) = true from beq_self_eq_true a,show (b == b) = true from beq_self_eq_true b]
theorem qzm {ty:TypeId} (hty:ty = 47 ∨ ty = 74) (cst:Bool) (a b c d:Int) (h:¬ (a = c ∧ b = d)):q0 ty cst (fv a b) (fv c d) = some false :=by
 rw [eqQ ty hty]
 by_cases h1:a = c
 ·rw [show (a == c) = true from beq_iff_eq.2 h1,show (b == d) = false from beq_eq_false_iff_ne.2 fun e => h ⟨h1,e⟩]
 ·rw [show (a == c) = false from beq_eq_false_iff_ne.2 h1]
theorem takP {xs:List AV} {k o:Nat} {v:List AV} (e:qfe k (qgo o xs) = some v):(match qfe k (qgo o xs) with | some l => Plan.ret (.agg l) | none => Plan.fail) = Plan.ret (.agg v) :=by rw [e]
theorem qlv:∀ (l:List (Int × Int)) (i:Nat),qgo (i * 2) (flat l) = flat (l.drop i)
 | _,0 => rfl
 | [],i + 1 => by rw [qgb,List.drop_eq_nil_of_le (Nat.zero_le _),List.drop_eq_nil_of_le (Nat.zero_le _)];rfl
 |p :: r,i + 1 => by
  rw [show (i + 1) * 2 = i * 2 + 2 by omega,List.drop_succ_cons,← qlv r i]
  rfl
theorem qns (l:List (Nat × Nat)) {i:Nat} (h:i < l.length):qfe 2 (qgo (i * 2) (flat (zp l))) = some [nv (gq l i).1,nv (gq l i).2] :=by
 rw [qlv,zp,← List.map_drop,qne l h]
 rfl

end
end Go.Abs.Seat
namespace Go.Abs.Seat
noncomputable section
open Go Go.Abs Go.Proofs.Tryz
set_option maxRecDepth 100000

end
end Go.Abs.Seat
namespace Go.Abs.Seat
noncomputable section
open Go Go.Abs Go.Proofs.Tryz
set_option maxRecDepth 100000
set_option maxHeartbeats 40000000
attribute [local irreducible] IntKind.wrap pEq
theorem OWk.eq {x y:AObj} (e:x = y):OWk x y :=e ▸ .same x

end
end Go.Abs.Seat
