/-
  The document's first train.
-/
import Derived.Test.YtcnidgafdonioaaGreatVT36
import Derived.Test.YtcnidgafdonioaaGreatVU8
import Derived.Test.YtcnidgafdonioaaGreatVU5
import Derived.Test.YtcnidgafdonioaaGreatVU4
namespace Go.Abs.Seat
noncomputable section
open Go Go.Abs Go.Proofs.Tryz
set_option maxRecDepth 100000
set_option maxHeartbeats 40000000
attribute [local irreducible] IntKind.wrap pEq
def zp (t:List (Nat × Nat)):List (Int × Int) :=t.map fun p => (Int.ofNat p.1,Int.ofNat p.2)
theorem zp_len (t:List (Nat × Nat)):(zp t).length = t.length :=List.length_map _
theorem takeN_flat (l:List (Int × Int)):takeN (l.length * 2) (flat l) = some (flat l) :=by
 have :=takeN_all (flat l)
 rwa [flat_len] at this
theorem allCells_flat:∀ l:List (Int × Int),allCells (flat l) = true
 | [] => rfl
 | _ :: r => allCells_flat r
theorem ko_rT {x:Nat} {c:Bool} {E:Env} {S:Sub} {o:Oper} {K:KE} {tm:Tr AV} {df:List ADf} {pm:APm} {rd:Bool} {h:Tr AObj} {n b:Nat} {wr:List Nat} (hc:c = true) (hk:opRun E S o K tm df pm rd h n b wr):@Bool.rec (fun _ => KO) opSkip opRun (@Bool.rec (fun _ => Bool) (@Bool.rec (fun _ => Bool) true false (x,true).snd) (x,true).snd c) E S o K tm df pm rd h n b wr :=by subst hc;exact hk
theorem ko_sT {x:Nat} {c:Bool} {E:Env} {S:Sub} {o:Oper} {K:KE} {tm:Tr AV} {df:List ADf} {pm:APm} {rd:Bool} {h:Tr AObj} {n b:Nat} {wr:List Nat} (hc:c = false) (hk:opSkip E S o K tm df pm rd h n b wr):@Bool.rec (fun _ => KO) opSkip opRun (@Bool.rec (fun _ => Bool) (@Bool.rec (fun _ => Bool) true false (x,true).snd) (x,true).snd c) E S o K tm df pm rd h n b wr :=by subst hc;exact hk
theorem ko_rF {x:Nat} {c:Bool} {E:Env} {S:Sub} {o:Oper} {K:KE} {tm:Tr AV} {df:List ADf} {pm:APm} {rd:Bool} {h:Tr AObj} {n b:Nat} {wr:List Nat} (hc:c = false) (hk:opRun E S o K tm df pm rd h n b wr):@Bool.rec (fun _ => KO) opSkip opRun (@Bool.rec (fun _ => Bool) (@Bool.rec (fun _ => Bool) true false (x,false).snd) (x,false).snd c) E S o K tm df pm rd h n b wr :=by subst hc;exact hk
theorem ko_sF {x:Nat} {c:Bool} {E:Env} {S:Sub} {o:Oper} {K:KE} {tm:Tr AV} {df:List ADf} {pm:APm} {rd:Bool} {h:Tr AObj} {n b:Nat} {wr:List Nat} (hc:c = true) (hk:opSkip E S o K tm df pm rd h n b wr):@Bool.rec (fun _ => KO) opSkip opRun (@Bool.rec (fun _ => Bool) (@Bool.rec (fun _ => Bool) true false (x,false).snd) (x,false).snd c) E S o K tm df pm rd h n b wr :=by subst hc;exact hk
theorem pick_t {t:Bool} {a b:AV} (h:t = true):pPick (.bool t) a b = Plan.ret a :=by subst h;rfl
theorem pick_f {t:Bool} {a b:AV} (h:t = false):pPick (.bool t) a b = Plan.ret b :=by subst h;rfl
end
end Go.Abs.Seat
namespace Go.Abs.Seat
def xP:List (Nat × Nat) → Nat
 | [] => 1
 |p :: r => p.1 * xP r
def yP:List (Nat × Nat) → Nat
 | [] => 1
 |p :: r => p.2 * yP r
def AllT (tp:Nat → Prop):List (Nat × Nat) → Prop
 | [] => True
 |p :: r => (tp p.1 ∧ tp p.2) ∧ AllT tp r
def Ch:Nat × Nat → List (Nat × Nat) → Prop
 | _,[] => True
 |f,p :: r => ¬ ltQ p f ∧ Ch p r
theorem Vt_iff {tp:Nat → Prop} (h1:∀ n,tp n → 1 ≤ n):∀ {k X Y:Nat} {f:Nat × Nat} {t:List (Nat × Nat)},Vt tp k X Y f t ↔ (t.length = k ∧ AllT tp t ∧ Ch f t) ∧ xP t = X ∧ yP t = Y
 | 0,X,Y,f,[] => by
  rw [Vt,xP,yP,AllT,Ch]
  exact ⟨fun h => ⟨⟨rfl,trivial,trivial⟩,h.1.symm,h.2.symm⟩,fun h => ⟨h.2.1.symm,h.2.2.symm⟩⟩
 | 0,_,_,_,_ :: _ => by rw [Vt];exact ⟨fun h => h.elim,fun h => by cases h.1.1⟩
 | _ + 1,_,_,_,[] => by rw [Vt];exact ⟨fun h => h.elim,fun h => by cases h.1.1⟩
 |k + 1,X,Y,f,p :: t => by
  rw [Vt,Vt_iff h1,AllT,Ch,xP,yP,List.length_cons]
  constructor
  ·rintro ⟨⟨a1,a2,a3⟩,⟨b1,b2⟩,⟨c1,c2,c3⟩,d1,d2⟩
   refine ⟨⟨by omega,⟨⟨a1,a2⟩,c2⟩,a3,c3⟩,?_,?_⟩
   ·rw [d1];exact Nat.mul_div_cancel' (Nat.dvd_of_mod_eq_zero b1)
   ·rw [d2];exact Nat.mul_div_cancel' (Nat.dvd_of_mod_eq_zero b2)
  ·rintro ⟨⟨a1,⟨⟨a2,a3⟩,a4⟩,a5,a6⟩,rfl,rfl⟩
   have q1 :=h1 _ a2
   have q2 :=h1 _ a3
   refine ⟨⟨a2,a3,a5⟩,⟨Nat.mul_mod_right _ _,Nat.mul_mod_right _ _⟩,⟨by omega,a4,a6⟩,?_,?_⟩
   ·exact (Nat.mul_div_cancel_left _ q1).symm
   ·exact (Nat.mul_div_cancel_left _ q2).symm
def insQ (p:Nat × Nat):List (Nat × Nat) → List (Nat × Nat)
 | [] => [p]
 |q :: r => if ltQ q p then q :: insQ p r else p :: q :: r
theorem insQ_len (p:Nat × Nat):∀ l,(insQ p l).length = l.length + 1
 | [] => rfl
 |q :: r => by
  rw [insQ]
  split
  ·rw [List.length_cons,insQ_len p r,List.length_cons]
  ·rfl
theorem insQ_x (p:Nat × Nat):∀ l,xP (insQ p l) = p.1 * xP l ∧ yP (insQ p l) = p.2 * yP l
 | [] => ⟨rfl,rfl⟩
 |q :: r => by
  have ih :=insQ_x p r
  rw [insQ]
  split
  ·rw [xP,xP,yP,yP,ih.1,ih.2]
   exact ⟨Nat.mul_left_comm _ _ _,Nat.mul_left_comm _ _ _⟩
  ·exact ⟨rfl,rfl⟩
theorem insQ_all {tp:Nat → Prop} {p:Nat × Nat} (hp:tp p.1 ∧ tp p.2):∀ {l:List (Nat × Nat)},AllT tp l → AllT tp (insQ p l)
 | [],_ => ⟨hp,trivial⟩
 |q :: r,h => by
  rw [insQ]
  split
  ·exact ⟨h.1,insQ_all hp h.2⟩
  ·exact ⟨hp,h⟩
theorem insQ_ch {p:Nat × Nat}:∀ {l:List (Nat × Nat)} {f:Nat × Nat},¬ ltQ p f → Ch f l → Ch f (insQ p l)
 | [],_,h,_ => ⟨h,trivial⟩
 |q :: r,f,h,k => by
  rw [insQ]
  split
  ·rename_i e
   exact ⟨k.1,insQ_ch (fun e2 => ltQ_irr _ (ltQ_trans e e2)) k.2⟩
  ·rename_i e
   exact ⟨h,e,k.2⟩
structure Tk (tp:Nat → Prop) (k:Nat) (t:List (Nat × Nat)):Prop where
 len:t.length = k
 all:AllT tp t
 ch:Ch (0,0) t
theorem Ch.ofAll {tp:Nat → Prop} {a:Nat} (ha:∀ n,tp n → a ≤ n) {t:List (Nat × Nat)} (h:AllT tp t) {f:Nat × Nat} (k:Ch f t):Ch (a,a) t :=by
 cases t with
 |nil => trivial
 |cons p r =>
  refine ⟨fun e => ?_,k.2⟩
  have h1 :=ha _ h.1.1
  have h2 :=ha _ h.1.2
  unfold ltQ at e
  simp only at e
  omega
theorem Tk.ex {tp:Nat → Prop}:∀ {k x y:Nat},prodP tp k x → prodP tp k y → ∃ t,Tk tp k t ∧ xP t = x ∧ yP t = y
 | 0,x,y,h1,h2 => by
  rw [prodP] at h1 h2
  exact ⟨[],⟨rfl,trivial,trivial⟩,h1.symm,h2.symm⟩
 |k + 1,x,y,h1,h2 => by
  rw [prodP] at h1 h2
  obtain ⟨x',n,a1,a2,rfl⟩ :=h1
  obtain ⟨y',m,b1,b2,rfl⟩ :=h2
  obtain ⟨t,ht,rfl,rfl⟩ :=Tk.ex a1 b1
  have hx :=insQ_x (n,m) t
  refine ⟨insQ (n,m) t,⟨by rw [insQ_len,ht.len],insQ_all ⟨a2,b2⟩ ht.all,insQ_ch (by unfold ltQ;simp) ht.ch⟩,?_,?_⟩
  ·rw [hx.1,Nat.mul_comm]
  ·rw [hx.2,Nat.mul_comm]
def dT (N D:Nat) (t:List (Nat × Nat)):Nat × Nat :=dQ N D (xP t,yP t)
def Btr (N D:Nat) (t u:List (Nat × Nat)):Prop :=¬ fle (dT N D u) (dT N D t) ∨ fle (dT N D t) (dT N D u) ∧ (t.length < u.length ∨ t.length = u.length ∧ ltL t u)
def RT (tp:Nat → Prop) (P:Nat) (lets:Nat → Prop) (t:List (Nat × Nat)):Prop :=(1 ≤ t.length ∧ t.length ≤ P) ∧ lets t.length ∧ Tk tp t.length t
def Bst (tp:Nat → Prop) (P:Nat) (lets:Nat → Prop) (N D:Nat) (t:List (Nat × Nat)):Prop :=RT tp P lets t ∧ ∀ u,RT tp P lets u → ¬ Btr N D u t
def Opt (tp:Nat → Prop) (N D k:Nat) (t:List (Nat × Nat)):Prop :=Tk tp k t ∧ ∀ u,Tk tp k u → fle (dT N D t) (dT N D u) ∧ (fle (dT N D u) (dT N D t) → ¬ ltL u t)
theorem RT.lift {tp:Nat → Prop} {P:Nat} {lets:Nat → Prop} {t:List (Nat × Nat)}:RT tp (P + 1) lets t ↔ RT tp P lets t ∨ lets (P + 1) ∧ Tk tp (P + 1) t :=by
 unfold RT
 constructor
 ·rintro ⟨⟨h1,h2⟩,h3,h4⟩
  by_cases e:t.length = P + 1
  ·rw [e] at h3 h4
   exact .inr ⟨h3,h4⟩
  ·exact .inl ⟨⟨h1,by omega⟩,h3,h4⟩
 ·rintro (⟨⟨h1,h2⟩,h3,h4⟩ | ⟨h3,h4⟩)
  ·exact ⟨⟨h1,by omega⟩,h3,h4⟩
  ·rw [h4.len]
   exact ⟨⟨by omega,Nat.le_refl _⟩,h3,h4⟩
def BO (tp:Nat → Prop) (P:Nat) (lets:Nat → Prop) (N D:Nat) (o:Option (List (Nat × Nat))):Prop :=
 match o with
 |none => ∀ t,¬ RT tp P lets t
 |some t => Bst tp P lets N D t
theorem BO.same {tp:Nat → Prop} {P:Nat} {lets:Nat → Prop} {N D:Nat} {o:Option (List (Nat × Nat))} (h:BO tp P lets N D o) (k:¬ (lets (P + 1) ∧ ∃ t,Tk tp (P + 1) t)):BO tp (P + 1) lets N D o :=by
 have e:∀ t,RT tp (P + 1) lets t ↔ RT tp P lets t :=fun t => by
  rw [RT.lift]
  exact ⟨fun h => h.resolve_right fun h => k ⟨h.1,t,h.2⟩,.inl⟩
 cases o with
 |none => exact fun t ht => h t ((e t).1 ht)
 |some t => exact ⟨(e t).2 h.1,fun u hu => h.2 u ((e u).1 hu)⟩
theorem yP_pos {tp:Nat → Prop} (h1:∀ n,tp n → 1 ≤ n):∀ {t:List (Nat × Nat)},AllT tp t → 1 ≤ yP t
 | [],_ => Nat.le_refl _
 | _ :: _,h => Nat.mul_pos (h1 _ h.1.2) (yP_pos h1 h.2)
theorem BO.old {tp:Nat → Prop} {P:Nat} {lets:Nat → Prop} {N D:Nat} (h1:∀ n,tp n → 1 ≤ n) {t u:List (Nat × Nat)} (h:BO tp P lets N D (some t)) (hu:Opt tp N D (P + 1) u) (hb:fle (dT N D t) (dT N D u)):BO tp (P + 1) lets N D (some t) :=by
 refine ⟨RT.lift.2 (.inl h.1),fun s hs hbt => ?_⟩
 rcases RT.lift.1 hs with k | ⟨_,k⟩
 ·exact h.2 s k hbt
 ·have q1 :=(hu.2 s k).1
  have q2 :=fle_tr (b :=dT N D u) (yP_pos h1 hu.1.all) hb q1
  rcases hbt with e | ⟨_,e⟩
  ·exact e q2
  ·have :=h.1.1
   have :=k.len
   rcases e with e | e
   ·omega
   ·omega
end Go.Abs.Seat
/-! The document's nearest train: plain. -/
namespace Go.Abs.Seat
def rcOf (l:List Nat) (N D b:Nat):List (Nat × Nat) :=
 (if 1 ≤ min (cntB D (b * N) l) (l.length - 1) then [(gn l (min (cntB D (b * N) l) (l.length - 1) - 1),b)] else []) ++ [(gn l (min (cntB D (b * N) l) (l.length - 1)),b)]
def rnF (l:List Nat) (N D:Nat):List (Nat × Nat) :=l.flatMap (rcOf l N D)
theorem near_lo {N D x y z:Nat} (hD:1 ≤ D) (hy:1 ≤ y) (h1:z * D ≤ y * N) (h2:x < z):¬ fle (dQ N D (x,y)) (dQ N D (z,y)) :=by
 unfold fle dQ
 simp only
 rw [Nat.mul_comm y N] at h1
 have h3:x * D < z * D :=(Nat.mul_lt_mul_right (by omega)).2 h2
 rw [gp_lt h1,gp_lt (by omega)]
 intro h
 have :=Nat.le_of_mul_le_mul_right h hy
 omega
theorem near_hi {N D x y z:Nat} (hD:1 ≤ D) (hy:1 ≤ y) (h1:y * N ≤ z * D) (h2:z < x):¬ fle (dQ N D (x,y)) (dQ N D (z,y)) :=by
 unfold fle dQ
 simp only
 rw [Nat.mul_comm y N] at h1
 have h3:z * D < x * D :=(Nat.mul_lt_mul_right (by omega)).2 h2
 rw [gp_gt h1,gp_gt (by omega)]
 intro h
 have :=Nat.le_of_mul_le_mul_right h hy
 omega
theorem rcOf_ok {l:List Nat} (hs:Srt l) (hp:∀ x,x ∈ l → 1 ≤ x) {N D b:Nat} (hD:1 ≤ D) (hb:b ∈ l) :
  (∀ q,q ∈ rcOf l N D b → q.1 ∈ l ∧ q.2 = b) ∧ ∀ x,x ∈ l → (x,b) ∈ rcOf l N D b ∨ ∃ z,z ∈ l ∧ (z,b) ∈ rcOf l N D b ∧ ¬ fle (dQ N D (x,b)) (dQ N D (z,b)) :=by
 have hc :=cnt_le D (b * N) l
 have hlt :=cnt_lt D (b * N) l
 have hge :=fun i => cnt_ge (n :=D) (w :=b * N) hs (i :=i)
 have hb1 :=hp b hb
 have hl:1 ≤ l.length :=by
  cases l with
  |nil => cases hb
  |cons => rw [List.length_cons];omega
 unfold rcOf
 generalize cntB D (b * N) l = c at *
 refine ⟨fun q hq => ?_,fun x hx => ?_⟩
 ·rw [List.mem_append,List.mem_singleton] at hq
  rcases hq with hq | rfl
  ·split at hq
   ·rw [List.mem_singleton] at hq
    subst hq
    exact ⟨gn_mem _ (by omega),rfl⟩
   ·cases hq
  ·exact ⟨gn_mem _ (by omega),rfl⟩
 ·obtain ⟨j,hj,rfl⟩ :=mem_gn hx
  by_cases e:j = min c (l.length - 1)
  ·left;rw [← e];simp
  by_cases h:j < min c (l.length - 1)
  ·rw [if_pos (by omega)]
   by_cases e2:j = min c (l.length - 1) - 1
   ·left;rw [← e2];simp
   ·right
    refine ⟨gn l (min c (l.length - 1) - 1),gn_mem _ (by omega),by simp,near_lo hD hb1 ?_ (hs _ _ (by omega) (by omega))⟩
    have :=hlt (min c (l.length - 1) - 1) (by omega)
    omega
  ·right
   refine ⟨gn l (min c (l.length - 1)),gn_mem _ (by omega),by simp,near_hi hD hb1 ?_ (hs _ _ (by omega) (by omega))⟩
   have :=hge (min c (l.length - 1)) (by omega) (by omega)
   omega
theorem rnF_ok {l:List Nat} (hs:Srt l) (hp:∀ x,x ∈ l → 1 ≤ x) {N D:Nat} (hD:1 ≤ D) :
  (∀ q,q ∈ rnF l N D → q.1 ∈ l ∧ q.2 ∈ l) ∧ ∀ x y,x ∈ l → y ∈ l → (x,y) ∈ rnF l N D ∨ ∃ z,z ∈ l ∧ (z,y) ∈ rnF l N D ∧ ¬ fle (dQ N D (x,y)) (dQ N D (z,y)) :=by
 refine ⟨fun q hq => ?_,fun x y hx hy => ?_⟩
 ·obtain ⟨b,hb,hq⟩ :=List.mem_flatMap.1 hq
  have :=(rcOf_ok hs hp hD hb).1 q hq
  exact ⟨this.1,by rw [this.2];exact hb⟩
 ·rcases (rcOf_ok hs hp hD hy).2 x hx with h | ⟨z,hz,h,k⟩
  ·exact .inl (List.mem_flatMap.2 ⟨y,hy,h⟩)
  ·exact .inr ⟨z,hz,List.mem_flatMap.2 ⟨y,hy,h⟩,k⟩
section
variable {tp:Nat → Prop} (h1:∀ n,tp n → 1 ≤ n ∧ n ≤ 60) {a:Nat} (ha:∀ n,tp n → a ≤ n) {k M N D:Nat} (hD:1 ≤ D) (hM:60 ^ k < M)
include h1 ha hD hM
theorem ref_none2 {b:Nat × Nat} (hb:b ∈ rnF (lstP (prodP tp k) M) N D):∃ t,fstT tp k b.1 b.2 (a,a) = some t :=by
 have _ :=hM
 have hpos1:∀ n,tp n → 1 ≤ n :=fun n h => (h1 n h).1
 have hp:∀ x,x ∈ lstP (prodP tp k) M → 1 ≤ x :=fun x hx => (prod_le h1 k x ((lstP_mem _ _ _).1 hx).2).1
 have hq :=(rnF_ok (lstP_srt _ _) hp (N :=N) hD).1 b hb
 obtain ⟨t,ht,e1,e2⟩ :=Tk.ex ((lstP_mem _ _ _).1 hq.1).2 ((lstP_mem _ _ _).1 hq.2).2
 obtain ⟨m,hm⟩ :=Vmin_ex (fun n h => (h1 n h).2) (X :=b.1) (Y :=b.2) (f :=(a,a)) (k :=k) (t :=t) ((Vt_iff hpos1).2 ⟨⟨ht.len,ht.all,Ch.ofAll ha ht.all ht.ch⟩,e1,e2⟩)
 exact ⟨m,fstT_some hm⟩
end
end Go.Abs.Seat

namespace Go.Abs.Seat

end Go.Abs.Seat
namespace Go.Abs.Seat
noncomputable section
open Go Go.Abs Go.Proofs.Tryz
set_option maxRecDepth 100000
set_option maxHeartbeats 40000000
attribute [local irreducible] IntKind.wrap pEq
def gq (l:List (Nat × Nat)) (i:Nat):Nat × Nat :=l.getD i (0,0)
theorem drop_gq (l:List (Nat × Nat)) {i:Nat} (h:i < l.length):l.drop i = gq l i :: l.drop (i + 1) :=by
 rw [List.drop_eq_getElem_cons h]
 simp [gq,List.getD,h]
theorem eqQ (ty:TypeId) (hty:ty = 40 ∨ ty = 105) (cst:Bool) (a b c d:Int):q0 ty cst (fv a b) (fv c d) = @Bool.rec (fun _ => Option Bool) (some false) (@Bool.rec (fun _ => Option Bool) (some false) (some true) (b == d)) (a == c) :=by
 rcases hty with rfl | rfl
 ·kernel_rfl
 ·kernel_rfl
theorem eqQ_same {ty:TypeId} (hty:ty = 40 ∨ ty = 105) (cst:Bool) (a b:Int):q0 ty cst (fv a b) (fv a b) = some true :=by
 rw [eqQ ty hty,show (a == a) = true from beq_self_eq_true a,show (b == b) = true from beq_self_eq_true b]
theorem eqQ_ne {ty:TypeId} (hty:ty = 40 ∨ ty = 105) (cst:Bool) (a b c d:Int) (h:¬ (a = c ∧ b = d)):q0 ty cst (fv a b) (fv c d) = some false :=by
 rw [eqQ ty hty]
 by_cases h1:a = c
 ·rw [show (a == c) = true from beq_iff_eq.2 h1,show (b == d) = false from beq_eq_false_iff_ne.2 fun e => h ⟨h1,e⟩]
 ·rw [show (a == c) = false from beq_eq_false_iff_ne.2 h1]
theorem takP {xs:List AV} {k o:Nat} {v:List AV} (e:takeN k (dropN o xs) = some v):(match takeN k (dropN o xs) with | some l => Plan.ret (.agg l) | none => Plan.fail) = Plan.ret (.agg v) :=by rw [e]
theorem flat_drop:∀ (l:List (Int × Int)) (i:Nat),dropN (i * 2) (flat l) = flat (l.drop i)
 | _,0 => rfl
 | [],i + 1 => by rw [dropN_eq,List.drop_eq_nil_of_le (Nat.zero_le _),List.drop_eq_nil_of_le (Nat.zero_le _)];rfl
 |p :: r,i + 1 => by
  rw [show (i + 1) * 2 = i * 2 + 2 by omega,List.drop_succ_cons,← flat_drop r i]
  rfl
theorem tak_zp (l:List (Nat × Nat)) {i:Nat} (h:i < l.length):takeN 2 (dropN (i * 2) (flat (zp l))) = some [nv (gq l i).1,nv (gq l i).2] :=by
 rw [flat_drop,zp,← List.map_drop,drop_gq l h]
 rfl

end
end Go.Abs.Seat
namespace Go.Abs.Seat
noncomputable section
open Go Go.Abs Go.Proofs.Tryz
set_option maxRecDepth 100000

end
end Go.Abs.Seat
namespace Go.Abs.Seat
noncomputable section
open Go Go.Abs Go.Proofs.Tryz
set_option maxRecDepth 100000
set_option maxHeartbeats 40000000
attribute [local irreducible] IntKind.wrap pEq
theorem OWk.eq {x y:AObj} (e:x = y):OWk x y :=e ▸ .same x

end
end Go.Abs.Seat
