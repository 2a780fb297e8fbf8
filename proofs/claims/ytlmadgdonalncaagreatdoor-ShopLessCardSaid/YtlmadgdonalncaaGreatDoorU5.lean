/-
  Loops, with heads that are checked faster: trees are compared as trees.
-/
import Derived.Test.YtlmadgdonalncaaGreatDoorU4
namespace Go.Abs
open Go
noncomputable section
def TrIw (b:Nat) (W:List Nat) (t:Tr AObj):Nat → Nat → Tr AObj → Prop :=
 @Tr.rec AObj (fun _ => Nat → Nat → Tr AObj → Prop) (fun _ _ t' => @Tr.rec AObj (fun _ => Prop) True (fun _ _ _ _ _ => False) t')
  (fun v _ _ ihl ihr o s t' => @Tr.rec AObj (fun _ => Prop) True
   (fun v' l' r' _ _ => @Bool.rec (fun _ => Prop) (OWk v v') (@Bool.rec (fun _ => Prop) (v = v') (OWk v v') (W.contains o)) (Nat.blt o b) ∧ ihl (Nat.add o s) (Nat.add s s) l' ∧ ihr (Nat.add o (Nat.add s s)) (Nat.add s s) r') t') t
theorem TrIw.refl (b:Nat) (W:List Nat):∀ (t:Tr AObj) (o s:Nat),TrIw b W t o s t
 | .nil,_,_ => trivial
 | .node v l r,o,s => by
  refine ⟨?_,TrIw.refl b W l _ _,TrIw.refl b W r _ _⟩
  cases Nat.blt o b with
  |false => exact .same _
  |true => cases W.contains o with
   |false => rfl
   |true => exact .same _
def atR (b:Nat) (W:List Nat) (o:Nat) (v v':AObj):Prop :=OWk v v' ∧ (o < b → o ∉ W → v = v')
theorem TrIw.get {b:Nat} {W:List Nat}:∀ (j:Nat) (t t':Tr AObj) (o s:Nat),TrIw b W t o s t' → ∀ v',t'.get j = some v' → ∃ v,t.get j = some v ∧ atR b W (o + s * j) v v'
 | _,_,.nil,_,_,_,v',h => by rw [Tr.get_nil] at h;cases h
 | _,.nil,.node _ _ _,_,_,k,_,_ => k.elim
 | 0,.node v l r,.node v' l' r',o,s,k,u,h => by
  cases h
  refine ⟨v,rfl,?_⟩
  have k1 :=k.1
  rw [Nat.mul_zero,Nat.add_zero]
  cases e1:Nat.blt o b with
  |false =>
   rw [e1] at k1
   refine ⟨k1,fun hb _ => ?_⟩
   have:Nat.blt o b = true :=by rw [Nat.blt_eq];exact hb
   rw [this] at e1;cases e1
  |true =>
   rw [e1] at k1
   cases e2:W.contains o with
   |false =>
    rw [e2] at k1
    have k1:v = v' :=k1
    subst k1
    exact ⟨.same _,fun _ _ => rfl⟩
   |true =>
    rw [e2] at k1
    exact ⟨k1,fun _ hn => absurd (List.contains_iff_mem.1 e2) hn⟩
 |j + 1,.node v l r,.node v' l' r',o,s,k,u,h => by
  by_cases hp:j % 2 = 0
  ·have e:(Tr.node v' l' r').get (j + 1) = l'.get (j / 2) :=by unfold Tr.get;rw [Tr.pathOf_odd hp];rfl
   have e':(Tr.node v l r).get (j + 1) = l.get (j / 2) :=by unfold Tr.get;rw [Tr.pathOf_odd hp];rfl
   rw [e] at h
   obtain ⟨w,h1,h2⟩ :=TrIw.get (j / 2) l l' _ _ k.2.1 u h
   refine ⟨w,by rw [e',h1],?_⟩
   have:o + s * (j + 1) = Nat.add o s + Nat.add s s * (j / 2) :=by
    show _ = o + s + (s + s) * (j / 2)
    have hj:j = 2 * (j / 2) :=by omega
    generalize j / 2 = i at *
    subst hj
    rw [Nat.add_mul,Nat.mul_add,Nat.mul_one,Nat.two_mul,Nat.mul_add];omega
   rw [this];exact h2
  ·have e:(Tr.node v' l' r').get (j + 1) = r'.get (j / 2) :=by unfold Tr.get;rw [Tr.pathOf_even hp];rfl
   have e':(Tr.node v l r).get (j + 1) = r.get (j / 2) :=by unfold Tr.get;rw [Tr.pathOf_even hp];rfl
   rw [e] at h
   obtain ⟨w,h1,h2⟩ :=TrIw.get (j / 2) r r' _ _ k.2.2 u h
   refine ⟨w,by rw [e',h1],?_⟩
   have:o + s * (j + 1) = Nat.add o (Nat.add s s) + Nat.add s s * (j / 2) :=by
    show _ = o + (s + s) + (s + s) * (j / 2)
    have hj:j = 2 * (j / 2) + 1 :=by omega
    generalize j / 2 = i at *
    subst hj
    rw [Nat.add_mul,Nat.mul_add,Nat.mul_add,Nat.mul_one,Nat.two_mul,Nat.mul_add];omega
   rw [this];exact h2
termination_by j => j
decreasing_by all_goals omega
def qkm (h:Tr AObj) (k:Nat):Bool :=@Nat.rec (fun _ => Bool) true (fun i ih => @Option.rec AObj (fun _ => Bool) false (fun _ => ih) (h.get i)) k
theorem qkm.lt {h:Tr AObj}:∀ {k:Nat},qkm h k = true → ∀ i,i < k → ∃ x,h.get i = some x
 |k + 1,hk,i,hi => by
  have hk:@Option.rec AObj (fun _ => Bool) false (fun _ => qkm h k) (h.get k) = true :=hk
  cases e:h.get k with
  |none => rw [e] at hk;cases hk
  |some x =>
   rw [e] at hk
   by_cases e2:i = k
   ·subst e2;exact ⟨x,e⟩
   ·exact qkm.lt hk i (by omega)
def TrBd (n:Nat) (t:Tr AObj):Prop :=@Tr.rec AObj (fun _ => Prop) True (fun v _ _ l r => BdO n v ∧ l ∧ r) t
theorem TrBd.get {n:Nat}:∀ (p:Pa) (t:Tr AObj),TrBd n t → ∀ a,Tr.getP p t = some a → BdO n a
 | .e,.nil,_,a,h => by cases h
 | .e,.node v _ _,hb,a,h => by cases h;exact hb.1
 | .l _,.nil,_,a,h => by cases h
 | .l p,.node _ l _,hb,a,h => TrBd.get p l hb.2.1 a h
 | .r _,.nil,_,a,h => by cases h
 | .r p,.node _ _ r,hb,a,h => TrBd.get p r hb.2.2 a h
theorem BdT.mono {n m:Nat} (h:n ≤ m):∀ {t:Tr AV},BdT n t → BdT m t
 | .nil,_ => trivial
 | .node _ _ _,k => ⟨Nat.le_trans k.1 h,BdT.mono h k.2.1,BdT.mono h k.2.2⟩
theorem BdE.mono {n m:Nat} (h:n ≤ m):∀ {es:List (AV × AV)},BdE n es → BdE m es
 | [],_ => trivial
 |(_,_) :: _,k => ⟨Nat.le_trans k.1 h,Nat.le_trans k.2.1 h,BdE.mono h k.2.2⟩
theorem BdO.mono {n m:Nat} (h:n ≤ m) {x:AObj} (k:BdO n x):BdO m x :=by
 cases x with
 |cells t _ _ => exact BdT.mono h k
 |mapo es => exact BdE.mono h k
 |mrow => exact Nat.le_trans k h
 |miter => exact Nat.lt_of_lt_of_le k h
 |loop => exact ⟨BdT.mono h k.1,Nat.lt_of_lt_of_le k.2 h⟩
 | _ => trivial
def BdL (n:Nat) (l:List (Nat × AObj)):Prop :=@List.rec (Nat × AObj) (fun _ => Prop) True (fun p _ ih => @Prod.rec Nat AObj (fun _ => Prop) (fun _ x => BdO n x ∧ ih) p) l
def BdX (n:Nat) (l:List AObj):Prop :=@List.rec AObj (fun _ => Prop) True (fun x _ ih => BdO n x ∧ ih) l
theorem BdL.mem {n:Nat}:∀ {l:List (Nat × AObj)},BdL n l → ∀ i x,(i,x) ∈ l → BdO n x
 |(j,y) :: l,h,i,x,hm => by
  rcases List.mem_cons.1 hm with e | hm
  ·cases e;exact h.1
  ·exact BdL.mem h.2 i x hm
theorem BdX.mem {n:Nat}:∀ {l:List AObj},BdX n l → ∀ x,x ∈ l → BdO n x
 |y :: l,h,x,hm => by
  rcases List.mem_cons.1 hm with e | hm
  ·cases e;exact h.1
  ·exact BdX.mem h.2 x hm
theorem ql9 {α:Type} {x:α}:∀ (p:Pa) (t:Tr α) (a:α),Tr.getP p (tadd p t x) = some a → Tr.getP p t = some a ∨ a = x
 | .e,.nil,a,h => by cases h;exact .inr rfl
 | .e,.node _ _ _,a,h => by cases h;exact .inr rfl
 | .l _,.nil,a,h => by rw [show tadd (.l _) (.nil:Tr α) x = .nil from rfl,qc0] at h;cases h
 | .r _,.nil,a,h => by rw [show tadd (.r _) (.nil:Tr α) x = .nil from rfl,qc0] at h;cases h
 | .l p,.node _ l _,a,h => ql9 p l a h
 | .r p,.node _ _ r,a,h => ql9 p r a h
theorem qpq:∀ (xs:List AObj) (n:Nat) (h:Tr AObj) (i:Nat) (a:AObj),(appT xs n h).get i = some a → h.get i = some a ∨ a ∈ xs
 | [],_,_,_,_,h => .inl h
 |x :: xs,n,h,i,a,hg => by
  rcases qpq xs (n + 1) (tadd (pathOf n) h x) i a hg with k | k
  ·by_cases e:i = n
   ·subst e
    rcases ql9 (pathOf i) h a k with k | k
    ·exact .inl k
    ·subst k;exact .inr (List.mem_cons_self ..)
   ·unfold Tr.get at k
    rw [qge _ _ _ fun e2 => e (qcu _ _ e2).symm] at k
    exact .inl k
  ·exact .inr (List.mem_cons_of_mem _ k)
structure AtZ (D:List ADf) (tm:Tr AV) (rd:Bool) (h:Tr AObj) (n b:Nat) (W:List Nat) (keep:List Nat) (ut:List (Nat × AV)) (uh:List (Nat × AObj)) (ux:List AObj) (s':AS):Prop where
 df:s'.df = D
 pm:s'.pm = .no
 rd:s'.rd = rd
 bq:s'.b = b
 wr:s'.wr = W
 dom:unkT s'.tm = unkT tm
 all:∃ N,N = endN ux n ∧ TmIw N s'.tm (apL (kept tm keep) ut) ∧ TrIw b W s'.h 0 1 (appT ux n (tput uh h)) ∧ BdL N uh ∧ BdX N ux ∧ qkm (appT ux n (tput uh h)) N = true
end
end Go.Abs
/-! Loops whose heads have lists of their own that may be begun anew: at each head such lists have the same numbers. -/
namespace Go.Abs
open Go
noncomputable section
def rnG (g:Gh) (n:Nat) (rs:List Nat):Gh :=
 { g with cn :=fun i => if i < n then g.cn i else g.cn (rs.getD (i - n) 0),cb :=fun i => if i < n then g.cb i else g.cb (rs.getD (i - n) 0),cc :=fun i => if i < n then g.cc i else g.cc (rs.getD (i - n) 0) }
theorem qjs (g:Gh) (n:Nat) (rs:List Nat) (w:World):Ext (fun i => i < n) g w (rnG g n rs) w :=
 ⟨fun _ _ => rfl,fun i hi => by show _ ≤ (if i < n then _ else _);rw [if_pos hi];exact Nat.le_refl _,fun i hi _ => ⟨if_pos hi,if_pos hi⟩,fun _ => Nat.le_refl _,fun _ _ _ => rfl⟩
def qdj:AObj → Prop
 | .chain _ _ _ => True
 | _ => False
theorem qdj.bk {x:AObj} (h:qdj x) (g:Gh) (i:Nat):g.bk x i = g.cb i :=by cases x <;> first|rfl|exact h.elim
theorem qdj.ne {x:AObj} (h:qdj x):x ≠ .hole :=fun e => by subst e;exact h
theorem qdj.bd {x:AObj} (h:qdj x) (n:Nat):OBd n x :=by cases x <;> first|trivial|exact h.elim
theorem qdj.lv {x:AObj} (h:qdj x) (L:Nat → Prop):qbo L x :=by cases x <;> first|trivial|exact h.elim
inductive RnV (n:Nat) (rs:List Nat):AV → AV → Prop
 |wk {y a:AV} (h:WkV y a) (b:bd a ≤ n):RnV n rs y a
 |ch {xs:List AV} {k j c d:Nat} (hj:j < rs.length) (e:rs.getD j 0 = c) (e2:d = n + j) (b:bdl xs ≤ n):RnV n rs (.lst xs k (.ch c)) (.lst xs k (.ch d))
 |tr {y z a:AV} (h:WkV y z) (k:RnV n rs z a):RnV n rs y a
def zo (n:Nat) (ux:List AObj) (o:Nat → AObj) (i:Nat):AObj :=if i < n then o i else ux.getD (i - n) .hole
structure ZnR (n:Nat) (rs:List Nat) (ux:List AObj) (o:Nat → AObj):Prop where
 len:rs.length = ux.length
 nd:rs.Nodup
 ge:∀ j,j < rs.length → n ≤ rs.getD j 0
 ob:∀ j,j < rs.length → o (rs.getD j 0) = ux.getD j .hole
 ch:∀ j,j < rs.length → qdj (ux.getD j .hole)
section
variable {n:Nat} {rs:List Nat} {ux:List AObj} {g:Gh} {B:Nat} {w:World} {H:AH} {o:Nat → AObj}
theorem HRel.rn (h:HRel g B w H) (ho:∀ i,i < n → OWk (H.o i) (o i)) (hb:∀ i,i < n → OBd n (o i)) (hz:ZnR n rs ux H.o):HRel (rnG g n rs) B w ⟨n + ux.length,n + ux.length,zo n ux o⟩ :=by
 have nh:∀ i,i < n → o i ≠ .hole → H.o i ≠ .hole :=fun i hi hn e => hn ((ho i hi).hole.1 e)
 have out:∀ i,¬ i < n → ¬ i - n < rs.length → ux.getD (i - n) .hole = .hole :=fun i _ hi => by
  rw [List.getD_eq_getElem?_getD,List.getElem?_eq_none (by rw [← hz.len];omega)];rfl
 have bk1:∀ (x:AObj) i,i < n → (rnG g n rs).bk x i = g.bk x i :=fun x i hi => by cases x <;> first|rfl|exact if_pos hi
 have bk2:∀ i,¬ i < n → i - n < rs.length → (rnG g n rs).bk (ux.getD (i - n) .hole) i = g.bk (H.o (rs.getD (i - n) 0)) (rs.getD (i - n) 0) :=fun i hi hl => by
  rw [(hz.ch _ hl).bk,hz.ob _ hl,(hz.ch _ hl).bk];exact if_neg hi
 have inz:∀ i,¬ i < n → i - n < rs.length → H.o (rs.getD (i - n) 0) ≠ .hole :=fun i _ hl => by rw [hz.ob _ hl];exact (hz.ch _ hl).ne
 have zinj:∀ i j,i < rs.length → j < rs.length → rs.getD i 0 = rs.getD j 0 → i = j :=fun i j hi hj e => by
  rw [List.getD_eq_getElem?_getD,List.getD_eq_getElem?_getD,List.getElem?_eq_getElem hi,List.getElem?_eq_getElem hj] at e
  simp only [Option.getD_some] at e
  have hp :=List.pairwise_iff_getElem.1 hz.nd
  rcases Nat.lt_trichotomy i j with k | k | k
  ·exact absurd e (hp i j hi hj k)
  ·exact k
  ·exact absurd e.symm (hp j i hj hi k)
 constructor
 ·intro i hi
  simp only at hi
  show zo n ux o i = _
  unfold zo
  rw [if_neg (by omega)]
  exact out i (by omega) (by rw [hz.len];omega)
 ·intro i hi
  simp only at hi ⊢
  unfold zo at hi ⊢
  by_cases e:i < n
  ·rw [if_pos e] at hi ⊢;rw [bk1 _ _ e,(ho i e).bk];exact h.ge i (nh i e hi)
  ·rw [if_neg e] at hi ⊢
   by_cases l:i - n < rs.length
   ·rw [bk2 i e l];exact h.ge _ (inz i e l)
   ·exact absurd (out i e l) hi
 ·intro i j hi hj
  simp only at hi hj ⊢
  unfold zo at hi hj ⊢
  by_cases e:i < n
  ·by_cases e2:j < n
   ·rw [if_pos e] at hi ⊢;rw [if_pos e2] at hj ⊢
    rw [bk1 _ _ e,bk1 _ _ e2,(ho i e).bk,(ho j e2).bk];exact h.inj i j (nh i e hi) (nh j e2 hj)
   ·rw [if_pos e] at hi ⊢;rw [if_neg e2] at hj ⊢
    by_cases l:j - n < rs.length
    ·rw [bk1 _ _ e,bk2 j e2 l,(ho i e).bk]
     intro k
     have :=h.inj i _ (nh i e hi) (inz j e2 l) k
     have :=hz.ge _ l
     omega
    ·exact absurd (out j e2 l) hj
  ·by_cases l:i - n < rs.length
   ·by_cases e2:j < n
    ·rw [if_neg e] at hi ⊢;rw [if_pos e2] at hj ⊢
     rw [bk2 i e l,bk1 _ _ e2,(ho j e2).bk]
     intro k
     have :=h.inj _ j (inz i e l) (nh j e2 hj) k
     have :=hz.ge _ l
     omega
    ·rw [if_neg e] at hi ⊢;rw [if_neg e2] at hj ⊢
     by_cases l2:j - n < rs.length
     ·rw [bk2 i e l,bk2 j e2 l2]
      intro k
      have :=zinj _ _ l l2 (h.inj _ _ (inz i e l) (inz j e2 l2) k)
      omega
     ·exact absurd (out j e2 l2) hj
   ·rw [if_neg e] at hi;exact absurd (out i e l) hi
 ·intro i
  simp only
  unfold zo
  by_cases e:i < n
  ·rw [if_pos e]
   by_cases hh:o i = .hole
   ·rw [hh];trivial
   ·have h1 :=(ho i e).rel (h.rel i)
    refine h1.ext (qjs g n rs w) (qbo.mono (fun _ k => k.2) (qbo.below ((ho i e).live (h.live i)) (hb i e))) e rfl rfl (if_pos e)
  ·rw [if_neg e]
   by_cases l:i - n < rs.length
   ·have h1 :=h.rel (rs.getD (i - n) 0)
    rw [hz.ob _ l] at h1
    have h2 :=hz.ch _ l
    revert h1 h2
    cases ux.getD (i - n) .hole <;> intro h1 h2 <;> first|exact h2.elim | skip
    obtain ⟨arr,k1,k2,k3,k4,k5⟩ :=h1
    have e1:(rnG g n rs).cb i = g.cb (rs.getD (i - n) 0) :=if_neg e
    have e2:(rnG g n rs).cc i = g.cc (rs.getD (i - n) 0) :=if_neg e
    have e3:(rnG g n rs).cn i = g.cn (rs.getD (i - n) 0) :=if_neg e
    refine ⟨arr,by rw [e1];exact k1,by rw [e1];exact k2,by rw [e2];exact k3,by rw [e2];exact k4,by rw [e3];exact k5⟩
   ·rw [out i e l];trivial
 ·intro i
  simp only
  unfold zo
  by_cases e:i < n
  ·rw [if_pos e]
   refine qbo.mono (fun j hj => ?_) (qbo.below ((ho i e).live (h.live i)) (hb i e))
   show (if j < n then o j else _) ≠ .hole
   rw [if_pos hj.2];exact fun k => hj.1 ((ho j hj.2).hole.2 k)
  ·rw [if_neg e]
   by_cases l:i - n < rs.length
   ·exact (hz.ch _ l).lv _
   ·rw [out i e l];trivial
 ·intro i
  simp only
  unfold zo
  by_cases e:i < n
  ·rw [if_pos e];exact (hb i e).mono (by omega)
  ·rw [if_neg e]
   by_cases l:i - n < rs.length
   ·exact (hz.ch _ l).bd _
   ·rw [out i e l];trivial
 ·exact h.imz
 ·exact h.hB
theorem Out.rn {g0:Gh} {w0:World} {H0:AH} (h:Out g0 B w0 H0 g w H) (ho:∀ i,i < n → OWk (H.o i) (o i)) (hb:∀ i,i < n → OBd n (o i)) (hz:ZnR n rs ux H.o) (hL:∀ i,H0.L i → i < n):Out g0 B w0 H0 (rnG g n rs) w ⟨n + ux.length,n + ux.length,zo n ux o⟩ :=by
 refine ⟨h.rel.rn ho hb hz,h.ext.trans ((qjs g n rs w).mono hL),h.below,fun i hi => ?_,h.frame,fun k hk => ?_⟩
 ·show zo n ux o i ≠ .hole
  unfold zo
  rw [if_pos (hL i hi)]
  exact fun e => h.L i hi ((ho i (hL i hi)).hole.2 e)
 ·obtain ⟨i,hi,e⟩ :=hk
  simp only at hi e
  unfold zo at hi e
  by_cases hlt:i < n
  ·rw [if_pos hlt] at hi e
   have e3:(rnG g n rs).bk (o i) i = g.bk (o i) i :=by cases o i <;> first|rfl|exact if_pos hlt
   rw [e3,(ho i hlt).bk] at e
   exact h.own k ⟨i,fun k => hi ((ho i hlt).hole.1 k),e⟩
  ·rw [if_neg hlt] at hi e
   by_cases l:i - n < rs.length
   ·have e3:(rnG g n rs).bk (ux.getD (i - n) .hole) i = g.bk (H.o (rs.getD (i - n) 0)) (rs.getD (i - n) 0) :=by
     rw [(hz.ch _ l).bk,hz.ob _ l,(hz.ch _ l).bk];exact if_neg hlt
    exact h.own k ⟨_,by rw [hz.ob _ l];exact (hz.ch _ l).ne,by rw [← e3];exact e⟩
   ·exact absurd (by rw [List.getD_eq_getElem?_getD,List.getElem?_eq_none (by rw [← hz.len];omega)];rfl) hi
theorem RnV.rel {L:Nat → Prop} {y a:AV} {u:Value} (k:RnV n rs y a) (hl:Live L y) (hv:VRel g w y u):VRel (rnG g n rs) w a u :=by
 induction k with
 |tr h _ ih => exact ih (h.lv _ hl) (h.wk _ _ _ hv)
 |wk h b => exact VRel.ext (qjs g n rs w) _ u (Live.mono (fun _ k => k.2) _ (Live.below _ (h.lv _ hl) b)) (h.wk _ _ _ hv)
 | @ch xs k j c d hj e e2 b =>
  subst e e2
  simp only [VRel] at hv ⊢
  obtain ⟨bb,off,cap,h1,h2,h3,h4,h5⟩ :=hv
  have hx :=VRel.ext (qjs g n rs w) (.lst xs k .no) u (Live.mono (fun _ k => k.2) _ (Live.below (.lst xs k .no) (L :=L) ⟨hl.1,fun _ e => nomatch e⟩ b)) (by simp only [VRel];exact ⟨bb,off,cap,h1,h2,h3,h4,trivial⟩)
  simp only [VRel] at hx
  obtain ⟨bb',off',cap',k1,k2,k3,k4,_⟩ :=hx
  rw [h1] at k1
  cases k1
  refine ⟨bb,off,cap,h1,h2,h3,k4,?_⟩
  have e1:(rnG g n rs).cb (n + j) = g.cb (rs.getD j 0) :=by show (if n + j < n then _ else _) = _;rw [if_neg (by omega),Nat.add_sub_cancel_left]
  have e2:(rnG g n rs).cc (n + j) = g.cc (rs.getD j 0) :=by show (if n + j < n then _ else _) = _;rw [if_neg (by omega),Nat.add_sub_cancel_left]
  have e3:(rnG g n rs).cn (n + j) = g.cn (rs.getD j 0) :=by show (if n + j < n then _ else _) = _;rw [if_neg (by omega),Nat.add_sub_cancel_left]
  show k ≤ (rnG g n rs).cn (n + j) ∧ (k = (rnG g n rs).cn (n + j) → bb = (rnG g n rs).cb (n + j) ∧ off = 0 ∧ cap = (rnG g n rs).cc (n + j))
  rw [e1,e2,e3]
  exact h5
end
/-! ### The head -/
def TmR (n:Nat) (rs:List Nat) (tm:Tr AV) (l:List (Nat × AV)):Prop :=
 @List.rec (Nat × AV) (fun _ => Prop) True (fun p _ ih => @Prod.rec Nat AV (fun _ => Prop) (fun i x => (∃ y,tm.get i = some y ∧ RnV n rs y x) ∧ ih) p) l
theorem TmR.mem {n:Nat} {rs:List Nat} {tm:Tr AV}:∀ {l:List (Nat × AV)},TmR n rs tm l → ∀ j a,(j,a) ∈ l → ∃ y,tm.get j = some y ∧ RnV n rs y a
 |(i,x) :: l,h,j,a,hm => by
  rcases List.mem_cons.1 hm with e | hm
  ·cases e;exact h.1
  ·exact TmR.mem h.2 j a hm
def ZnL (n:Nat) (o:Tr AObj) (rs:List Nat):List AObj → Prop :=
 @List.rec Nat (fun _ => List AObj → Prop) (fun ux => @List.rec AObj (fun _ => Prop) True (fun _ _ _ => False) ux)
  (fun c _ ih ux => @List.rec AObj (fun _ => Prop) False (fun x r _ => (n ≤ c ∧ hv o c = x ∧ qdj x) ∧ ih r) ux) rs
theorem ZnL.get {n:Nat} {o:Tr AObj}:∀ {rs:List Nat} {ux:List AObj},ZnL n o rs ux → rs.length = ux.length ∧ ∀ j,j < rs.length → n ≤ rs.getD j 0 ∧ hv o (rs.getD j 0) = ux.getD j .hole ∧ qdj (ux.getD j .hole)
 | [],[],_ => ⟨rfl,fun j h => absurd h (Nat.not_lt_zero _)⟩
 | [],_ :: _,h => h.elim
 | _ :: _,[],h => h.elim
 |c :: rs,x :: ux,h => by
  obtain ⟨h1,h2⟩ :=ZnL.get h.2
  refine ⟨by rw [List.length_cons,List.length_cons,h1],fun j hj => ?_⟩
  cases j with
  |zero => exact h.1
  |succ j =>
   rw [List.length_cons] at hj
   exact h2 j (by omega)
def ZxL (t:Tr AObj) (n:Nat) (ux:List AObj):Prop :=@List.rec AObj (fun _ => Nat → Prop) (fun _ => True) (fun x _ ih n => t.get n = some x ∧ ih (Nat.succ n)) ux n
theorem ZxL.get {t:Tr AObj}:∀ {ux:List AObj} {n:Nat},ZxL t n ux → ∀ j,j < ux.length → t.get (n + j) = some (ux.getD j .hole)
 |x :: ux,n,h,j,hj => by
  cases j with
  |zero => exact h.1
  |succ j =>
   rw [List.length_cons] at hj
   have :=ZxL.get h.2 j (by omega)
   rw [show n + (j + 1) = Nat.succ n + j by show _ = n + 1 + j;omega]
   exact this
theorem Dm.relG {g:Gh} {w:World} {L L':Nat → Prop} {m n:Nat} {rs:List Nat}:∀ {D:List ADf} {ds:List Deferred},Dm m D → (∀ i,i < m → L i → L' i) → qg6 g w L D ds → qg6 (rnG g n rs) w L' D ds
 | [],_,_,_,h => h
 | .call _ _ :: _,_,h,_,_ => h.elim
 | .mark o :: l,ds,h,hl,hr => by
  obtain ⟨ds',e1,h1,h2⟩ :=hr
  exact ⟨ds',e1,hl o h.1 h1,Dm.relG h.2 hl h2⟩
structure AtR (D:List ADf) (tm:Tr AV) (rd:Bool) (h:Tr AObj) (n b:Nat) (W:List Nat) (keep:List Nat) (ut:List (Nat × AV)) (uh:List (Nat × AObj)) (ux:List AObj) (rs:List Nat) (s':AS):Prop where
 df:s'.df = D
 pm:s'.pm = .no
 rd:s'.rd = rd
 bq:s'.b = b
 wr:s'.wr = W
 dom:unkT s'.tm = unkT tm
 nd:rs.Nodup
 tmr:TmR n rs s'.tm (apL (kept tm keep) ut)
 ob:TrIw b W s'.h 0 1 (tput uh h)
 bd:BdL n uh
 full:qkm (tput uh h) n = true
 zn:ZnL n s'.h rs ux
 zx:ZxL (appT ux n (tput uh h)) n ux
section
variable {D:List ADf} {tm:Tr AV} {rd:Bool} {h:Tr AObj} {n b:Nat} {W:List Nat} {s':AS} {keep:List Nat} {ut:List (Nat × AV)} {uh:List (Nat × AObj)} {ux:List AObj} {rs:List Nat}
theorem AtR.znr (ha:AtR D tm rd h n b W keep ut uh ux rs s'):ZnR n rs ux (hv s'.h) :=
 ⟨ha.zn.get.1,ha.nd,fun j hj => (ha.zn.get.2 j hj).1,fun j hj => (ha.zn.get.2 j hj).2.1,fun j hj => (ha.zn.get.2 j hj).2.2⟩
theorem AtR.old (hB:TrBd n h) (ha:AtR D tm rd h n b W keep ut uh ux rs s'):∀ i,i < n → ∃ x,(tput uh h).get i = some x ∧ (∃ y,s'.h.get i = some y ∧ atR b W i y x) ∧ BdO n x :=fun i hi => by
 obtain ⟨x,hx⟩ :=qkm.lt ha.full i hi
 refine ⟨x,hx,?_,?_⟩
 ·obtain ⟨y,k1,k2⟩ :=TrIw.get i _ _ 0 1 ha.ob x hx
  rw [Nat.zero_add,Nat.one_mul] at k2
  exact ⟨y,k1,k2⟩
 ·rcases (qcg _ _ _ _ hx).2 with k | ⟨_,k⟩
  ·exact ha.bd.mem i x k
  ·exact TrBd.get (pathOf i) h hB x k
theorem qpp:∀ (xs:List AObj) (n:Nat) (h:Tr AObj) (i:Nat),i < n → (appT xs n h).get i = h.get i
 | [],_,_,_,_ => rfl
 |x :: xs,n,h,i,hi => by
  have :=qpp xs (n + 1) (tadd (pathOf n) h x) i (by omega)
  refine this.trans ?_
  unfold Tr.get
  rw [qge _ _ _ fun e => by have :=qcu _ _ e;omega]
theorem qo9 (_he:HEnd h n) (hx:∀ j,j < ux.length → (appT ux n (tput uh h)).get (n + j) = some (ux.getD j .hole)):hv (qbv D tm rd h n b W keep ut uh ux).h = zo n ux (hv (tput uh h)) :=by
 funext i
 show hv (appT ux n (tput uh h)) i = _
 unfold zo
 by_cases hi:i < n
 ·rw [if_pos hi]
  unfold hv
  rw [qpp ux n _ i hi]
 ·rw [if_neg hi]
  by_cases hj:i - n < ux.length
  ·have :=hx (i - n) hj
   rw [show n + (i - n) = i by omega] at this
   unfold hv
   rw [this]
  ·have he2 :=qev (D :=D) (tm :=tm) (rd :=rd) (b :=b) (W :=W) (keep :=keep) (ut :=ut) (uh :=uh) (ux :=ux) _he
   have :=he2.hole (i :=i) (by show endN ux n ≤ i;rw [qb1];omega)
   rw [List.getD_eq_getElem?_getD,List.getElem?_eq_none (by omega)]
   exact this
theorem AtR.tms (ha:AtR D tm rd h n b W keep ut uh ux rs s'):∀ i a,(qbv D tm rd h n b W keep ut uh ux).tm.get i = some a → ∃ y,s'.tm.get i = some y ∧ RnV n rs y a :=by
 intro i a hi
 obtain ⟨⟨y,h1⟩,h2⟩ :=qcg _ _ _ _ hi
 rcases h2 with h2 | ⟨_,h3⟩
 ·exact ha.tmr.mem i a h2
 ·rw [qbb] at h3
  have hd:(s'.tm.get i).map (fun _ => AV.unk) = (tm.get i).map fun _ => AV.unk :=by rw [← qbb,← qbb,ha.dom]
  cases hs:tm.get i with
  |none => rw [hs] at h3;cases h3
  |some z =>
   rw [hs] at h3 hd
   simp only [Option.map_some,Option.some.injEq] at h3
   subst h3
   cases hs':s'.tm.get i with
   |none => rw [hs'] at hd;cases hd
   |some z' => exact ⟨z',rfl,.wk (WkV.unk z') (Nat.zero_le _)⟩
theorem AtR.adapt (hB:TrBd n h) (hD:Dm n D) (ha:AtR D tm rd h n b W keep ut uh ux rs s') {g g0:Gh} {B:Nat} {w w0:World} {H H0:AH} {fr:Frame} {cs:List Frame} (hH:H.o = hv s'.h) (hL:∀ i,H0.L i → i < n)
  (hr:FrRel g B w (s'.st H) fr cs) (ho:Out g0 B w0 H0 g w H) :
  FrRel (rnG g n rs) B w ((qbv D tm rd h n b W keep ut uh ux).st ⟨n + ux.length,n + ux.length,zo n ux (hv (tput uh h))⟩) fr cs ∧ Out g0 B w0 H0 (rnG g n rs) w ⟨n + ux.length,n + ux.length,zo n ux (hv (tput uh h))⟩ :=by
 have hold :=ha.old hB
 have hok:∀ i,i < n → OWk (H.o i) (hv (tput uh h) i) ∧ OBd n (hv (tput uh h) i) :=fun i hi => by
  obtain ⟨x,k1,⟨y,k2,k3⟩,k4⟩ :=hold i hi
  rw [hH]
  unfold hv
  rw [k1,k2]
  exact ⟨k3.1,k4.ok⟩
 have hz:ZnR n rs ux H.o :=by rw [hH];exact ha.znr
 have hrel :=hr.h.rn (fun i hi => (hok i hi).1) (fun i hi => (hok i hi).2) hz
 refine ⟨⟨hrel,⟨fun t a ht => ?_,fun t a ht => ?_⟩,?_,trivial,fun e => hr.rd (by show s'.rd = false;rw [ha.rd];exact e)⟩,ho.rn (fun i hi => (hok i hi).1) (fun i hi => (hok i hi).2) hz hL⟩
 ·obtain ⟨y,k1,k2⟩ :=ha.tms t a ht
  have :=hr.tm.rel t y k1
  exact ⟨this.1,k2.rel (hr.tm.live t y k1) this.2⟩
 ·obtain ⟨y,k1,k2⟩ :=ha.tms t a ht
  have hl :=hr.tm.live t y k1
  have lold:∀ i,H.L i ∧ i < n → zo n ux (hv (tput uh h)) i ≠ .hole :=fun i hi => by
   unfold zo
   rw [if_pos hi.2]
   exact fun e => hi.1 (((hok i hi.2).1).hole.2 e)
  clear k1 ht
  induction k2 with
  |tr h _ ih => exact ih (h.lv _ hl)
  |wk hw hb => exact Live.mono lold _ (Live.below _ (hw.lv _ hl) hb)
  | @ch xs k j c d hj e e2 b =>
   subst e e2
   refine ⟨Lives.mono lold xs (Lives.below xs hl.1 b),fun c e => ?_⟩
   cases e
   show zo n ux _ (n + j) ≠ .hole
   unfold zo
   rw [if_neg (by omega),Nat.add_sub_cancel_left]
   exact (hz.ch j hj).ne
 ·have hdf :=hr.df
  have e:(s'.st H).df = D :=ha.df
  rw [e] at hdf
  exact Dm.relG hD (fun i hi hl => by
   show zo n ux _ i ≠ .hole
   unfold zo
   rw [if_pos hi]
   exact fun e => hl (((hok i hi).1).hole.2 e)) hdf
theorem qq3 {E:Env} (hE:E.Ok) {S:Sub} (hS:S = qbg E.P) {A:Type} {c:Code} {f:AS → KE → Prop} {tm:Tr AV} {df:List ADf} {pm:APm} {rd:Bool} {h:Tr AObj} {n b:Nat} {W0:List Nat} {K:KE}
  (W:List Nat) (hW:∀ x,x ∈ W0 → x ∈ W) (keep:List Nat) (ut:A → List (Nat × AV)) (uh:A → List (Nat × AObj)) (ux:A → List AObj) (I:A → Prop) (m:A → Nat) (a0:A) (hbn:b ≤ n) (hD:Dm n df) (hu0:ux a0 = []) (hB:TrBd n h)
  (h0:AtR df tm rd h n b W keep (ut a0) (uh a0) (ux a0) [] ⟨tm,df,pm,rd,h,n,b,W⟩) (hI:I a0)
  (step:∀ a,I a → ∀ N,N = endN (ux a) n → exC c E S ⟨tput (apL (kept tm keep) (ut a)) (unkT tm),df,.no,rd,appT (ux a) n (tput (uh a) h),N,b,W⟩ fun e s' => @AEx.rec (fun _ => Prop)
   (∃ a' rs,I a' ∧ m a' < m a ∧ AtR df tm rd h n b W keep (ut a') (uh a') (ux a') rs s')
   (fun id => K (.exit id) s') (K .ret s') (fun l => K (.panic l) s') e):S.loop c f ⟨tm,df,pm,rd,h,n,b,W0⟩ K :=by
 subst hS
 intro he
 simp only at he
 -- the state at the head, with a heap
 let hd:A → St :=fun a => (qbv df tm rd h n b W keep (ut a) (uh a) (ux a)).st ⟨n + (ux a).length,n + (ux a).length,zo n (ux a) (hv (tput (uh a) h))⟩
 let its:List Item :=[.code c,.inLoop c]
 let Pre:Nat → AH → A → Prop :=fun B H a => ∀ g0 fr0 cs0 w0 k,FrRel g0 B w0 ((⟨tm,df,pm,rd,h,n,b,W0⟩ : AS).st H) fr0 cs0 → fr0.mode = .run → fr0.todo = its ++ k →
  ∃ g fr cs w,FrRel g B w (hd a) fr cs ∧ Out g0 B w0 H g w (hd a).H ∧ SameFr fr0 fr ∧ CsOk pm cs0 cs ∧ fr.mode = .run ∧ fr.todo = its ++ k ∧ Steps E.P (lone fr0 cs0 w0) (lone fr cs w)
 have hpm:pm = .no :=h0.pm
 have main:∀ (k:Nat) (a:A),I a → m a < k → (∀ j,j < (ux a).length → (appT (ux a) n (tput (uh a) h)).get (n + j) = some ((ux a).getD j .hole)) → (∀ B H,H.o = hv h → Pre B H a) → (∀ x,x < b → x ∉ W → hv (tput (uh a) h) x = hv h x) →
   ∃ e s',K e s' ∧ Aft ⟨tm,df,pm,rd,h,n,b,W0⟩ s' ∧ ∀ (B:Nat) (H:AH),H.o = hv h → ∃ H':AH,H'.o = hv s'.h ∧ SemL E.P B c ((⟨tm,df,pm,rd,h,n,b,W0⟩ : AS).st H) e (s'.st H') :=by
  intro k
  induction k with
  |zero => intro a _ h;omega
  |succ k ih =>
   intro a hIa hm hx hpre hsm
   have hea :=qev (D :=df) (tm :=tm) (rd :=rd) (b :=b) (W :=W) (keep :=keep) (ut :=ut a) (uh :=uh a) (ux :=ux a) he
   have hhv :=qo9 (D :=df) (tm :=tm) (rd :=rd) (b :=b) (W :=W) (keep :=keep) (ut :=ut a) (uh :=uh a) (ux :=ux a) he hx
   obtain ⟨e,s1,h1,h2,h3⟩ :=qf6 hE (qbk E.P) c _ _ (step a hIa _ rfl) hea
   have hkept:∀ x,x < b → x ∉ s1.wr → hv s1.h x = hv h x :=fun x hx hn => by
    have k1:Kept b (qbv df tm rd h n b W keep (ut a) (uh a) (ux a)).h W s1.h s1.wr :=h2.kept
    rw [k1.same x hx hn,hhv]
    unfold zo
    rw [if_pos (by omega)]
    exact hsm x hx fun h => hn (k1.sub x h)
   have haft:Aft ⟨tm,df,pm,rd,h,n,b,W0⟩ s1 :=⟨h2.he,h2.b,fun x hx => (by
    have k1:Kept b (qbv df tm rd h n b W keep (ut a) (uh a) (ux a)).h W s1.h s1.wr :=h2.kept
    exact k1.sub x (hW x hx)),hkept⟩
   by_cases hn:e = .normal
   ·subst hn
    obtain ⟨a',rs,hIa',hlt,hah⟩ :=h1
    refine ih a' hIa' (by omega) hah.zx.get (fun B H hH => ?_) fun x hx hn => ?_
    ·intro g0 fr0 cs0 w0 kk hr0 hm0 ht0
     obtain ⟨g,fr,cs,w,q1,q2,q3,q4,q5,q6,q7⟩ :=hpre B H hH g0 fr0 cs0 w0 kk hr0 hm0 ht0
     obtain ⟨H1,k1,k2⟩ :=h3 B ⟨n + (ux a).length,n + (ux a).length,zo n (ux a) (hv (tput (uh a) h))⟩ hhv.symm
     obtain ⟨g',fr',cs',w',r1,r2,r3,r4,r5,r6,r7⟩ :=k2 g fr cs w (.inLoop c :: kk) q1 q5 q6 (fun e => by cases e) _ rfl
     have hL:∀ i,H.L i → i < n :=fun i hi => by
      apply Nat.lt_of_not_le
      intro hle
      have hi:H.o i ≠ .hole :=hi
      rw [hH] at hi
      exact hi (he.hole hle)
     obtain ⟨z1,z2⟩ :=hah.adapt hB hD k1 hL r1 (q2.trans r2)
     refine ⟨_,{ fr' with todo :=its ++ kk },cs',w',z1.todo _,z2,⟨r3.fn.trans q3.fn,r3.kind.trans q3.kind,r3.round.trans q3.round⟩,?_,r6.1,rfl,q7.trans (r7.trans (qa5 ?_))⟩
     ·subst hpm
      have e1:cs' = cs :=r4
      rw [e1];exact q4
     ·simp [stepG,stepG.exec,r6.1,r6.2,its]
    ·obtain ⟨y,k1,⟨z,k2,k3⟩,_⟩ :=hah.old hB x (by omega)
     have e1:hv (tput (uh a') h) x = hv s1.h x :=by
      unfold hv
      rw [k1,k2]
      exact (k3.2 hx hn).symm
     rw [e1]
     exact hkept x hx (by rw [hah.wr];exact hn)
   ·have plain:K e s1 → ∃ e s',K e s' ∧ Aft ⟨tm,df,pm,rd,h,n,b,W0⟩ s' ∧ ∀ (B:Nat) (H:AH),H.o = hv h → ∃ H':AH,H'.o = hv s'.h ∧ SemL E.P B c ((⟨tm,df,pm,rd,h,n,b,W0⟩ : AS).st H) e (s'.st H') :=fun hk => by
     refine ⟨e,s1,hk,haft,fun B H hH => ?_⟩
     obtain ⟨H1,k1,k2⟩ :=h3 B ⟨n + (ux a).length,n + (ux a).length,zo n (ux a) (hv (tput (uh a) h))⟩ hhv.symm
     have k3 :=SemL.stop k2 hn
     refine ⟨H1,k1,fun g0 fr0 cs0 w0 kk hr0 hm0 ht0 hro k' hk' => ?_⟩
     obtain ⟨g,fr,cs,w,q1,q2,q3,q4,q5,q6,q7⟩ :=hpre B H hH g0 fr0 cs0 w0 kk hr0 hm0 ht0
     obtain ⟨g',fr',cs',w',r1,r2,r3,r4,r5,r6,r7⟩ :=k3 g fr cs w kk q1 q5 q6 (fun e => q3.round.trans (hro e)) k' hk'
     refine ⟨g',fr',cs',w',r1,q2.trans r2,q3.trans r3,?_,?_,r6,q7.trans r7⟩
     ·subst hpm
      have e1:cs = cs0 :=q4
      have e2:cs' = cs :=r4
      show cs' = cs0
      rw [e2,e1]
     ·subst hpm
      exact r5
    cases e with
    |normal => exact absurd rfl hn
    |ret => exact plain h1
    |panic l => exact plain h1
    |exit id => exact plain h1
 refine main (m a0 + 1) a0 hI (by omega) (by rw [hu0];intro j hj;exact absurd hj (Nat.not_lt_zero _)) (fun B H hH => ?_) fun x hx hn => ?_
 ·intro g0 fr0 cs0 w0 kk hr0 hm0 ht0
  have hL:∀ i,H.L i → i < n :=fun i hi => by
   apply Nat.lt_of_not_le
   intro hle
   have hi:H.o i ≠ .hole :=hi
   rw [hH] at hi
   exact hi (he.hole hle)
  obtain ⟨z1,z2⟩ :=h0.adapt hB hD hH hL hr0 (Out.refl hr0.h)
  exact ⟨_,fr0,cs0,w0,z1,z2,⟨rfl,rfl,rfl⟩,CsOk.refl _ _ _ hr0.pm,hm0,ht0,.refl _ _⟩
 ·obtain ⟨y,k1,⟨z,k2,k3⟩,_⟩ :=h0.old hB x (by omega)
  unfold hv
  rw [k1,k2]
  exact (k3.2 hx hn).symm
end
theorem zhr {D:List ADf} {tm:Tr AV} {rd:Bool} {h:Tr AObj} {n b:Nat} {W:List Nat} {keep:List Nat} {ut:List (Nat × AV)} {uh:List (Nat × AObj)} {ux:List AObj} {rs:List Nat} {s':AS} (z1:s'.df = D ∧ s'.pm = .no ∧ s'.rd = rd ∧ s'.b = b ∧ s'.wr = W ∧ unkT s'.tm = unkT tm := by exact ⟨rfl,rfl,rfl,rfl,rfl,rfl⟩) (z2:rs.Nodup := by decide) (z3:TmR n rs s'.tm (apL (kept tm keep) ut) := by repeat' first|exact trivial|exact rfl|exact ⟨_,rfl,RnV.wk (WkV.refl _) (Nat.zero_le _)⟩|exact ⟨_,rfl,RnV.wk (WkV.refl _) (kle rfl)⟩|exact ⟨_,rfl,RnV.wk (WkV.refl _) bdq⟩|exact ⟨_,rfl,RnV.wk (WkV.refl _) (bd_svC _ (by decide))⟩|exact ⟨_,rfl,RnV.wk (WkV.int ‹_›) (Nat.zero_le _)⟩|exact TrIw.refl _ _ _ _ _|exact OWk.same _|exact OWk.loop _ _ _ _ _ _ _ (by repeat' (first|exact trivial|exact WkV.refl _|exact WkV.unk _|apply And.intro))|exact Nat.zero_le _|exact kle rfl|exact bdq|exact mxI rfl|exact mxS rfl|exact bd_ljC _ (by decide)|exact bd_giC _ (by decide)|exact bd_svC _ (by decide)|exact qfe _ (by decide)|apply And.intro|exact ⟨_,rfl,RnV.wk (WkV.refl _) (bz (nl_no (zl H)))⟩|exact ⟨_,rfl,rnC (j :=0) (by decide) rfl rfl ⟨trivial,trivial⟩⟩|exact ⟨_,rfl,rnC (j :=0) (by decide) rfl rfl (qal _)⟩|exact ⟨_,rfl,rnI (j :=0) (by decide) rfl rfl⟩) (z4:TrIw b W s'.h 0 1 (tput uh h) := by repeat' first|exact trivial|exact rfl|exact ⟨_,rfl,RnV.wk (WkV.refl _) (Nat.zero_le _)⟩|exact ⟨_,rfl,RnV.wk (WkV.refl _) (kle rfl)⟩|exact ⟨_,rfl,RnV.wk (WkV.refl _) bdq⟩|exact ⟨_,rfl,RnV.wk (WkV.refl _) (bd_svC _ (by decide))⟩|exact ⟨_,rfl,RnV.wk (WkV.int ‹_›) (Nat.zero_le _)⟩|exact TrIw.refl _ _ _ _ _|exact OWk.same _|exact OWk.loop _ _ _ _ _ _ _ (by repeat' (first|exact trivial|exact WkV.refl _|exact WkV.unk _|apply And.intro))|exact Nat.zero_le _|exact kle rfl|exact bdq|exact mxI rfl|exact mxS rfl|exact bd_ljC _ (by decide)|exact bd_giC _ (by decide)|exact bd_svC _ (by decide)|exact qfe _ (by decide)|apply And.intro|exact qw1 _ _) (z5:BdL n uh := by repeat' first|exact trivial|exact rfl|exact ⟨_,rfl,RnV.wk (WkV.refl _) (Nat.zero_le _)⟩|exact ⟨_,rfl,RnV.wk (WkV.refl _) (kle rfl)⟩|exact ⟨_,rfl,RnV.wk (WkV.refl _) bdq⟩|exact ⟨_,rfl,RnV.wk (WkV.refl _) (bd_svC _ (by decide))⟩|exact ⟨_,rfl,RnV.wk (WkV.int ‹_›) (Nat.zero_le _)⟩|exact TrIw.refl _ _ _ _ _|exact OWk.same _|exact OWk.loop _ _ _ _ _ _ _ (by repeat' (first|exact trivial|exact WkV.refl _|exact WkV.unk _|apply And.intro))|exact Nat.zero_le _|exact kle rfl|exact bdq|exact mxI rfl|exact mxS rfl|exact bd_ljC _ (by decide)|exact bd_giC _ (by decide)|exact bd_svC _ (by decide)|exact qfe _ (by decide)|apply And.intro) (z6:qkm (tput uh h) n = true := by kernel_rfl) (z7:ZnL n s'.h rs ux := by repeat' first|exact trivial|exact rfl|exact ⟨_,rfl,RnV.wk (WkV.refl _) (Nat.zero_le _)⟩|exact ⟨_,rfl,RnV.wk (WkV.refl _) (kle rfl)⟩|exact ⟨_,rfl,RnV.wk (WkV.refl _) bdq⟩|exact ⟨_,rfl,RnV.wk (WkV.refl _) (bd_svC _ (by decide))⟩|exact ⟨_,rfl,RnV.wk (WkV.int ‹_›) (Nat.zero_le _)⟩|exact TrIw.refl _ _ _ _ _|exact OWk.same _|exact OWk.loop _ _ _ _ _ _ _ (by repeat' (first|exact trivial|exact WkV.refl _|exact WkV.unk _|apply And.intro))|exact Nat.zero_le _|exact kle rfl|exact bdq|exact mxI rfl|exact mxS rfl|exact bd_ljC _ (by decide)|exact bd_giC _ (by decide)|exact bd_svC _ (by decide)|exact qfe _ (by decide)|apply And.intro|exact qw1 _ _) (z8:ZxL (appT ux n (tput uh h)) n ux := by repeat' first|exact trivial|exact rfl|exact ⟨_,rfl,RnV.wk (WkV.refl _) (Nat.zero_le _)⟩|exact ⟨_,rfl,RnV.wk (WkV.refl _) (kle rfl)⟩|exact ⟨_,rfl,RnV.wk (WkV.refl _) bdq⟩|exact ⟨_,rfl,RnV.wk (WkV.refl _) (bd_svC _ (by decide))⟩|exact ⟨_,rfl,RnV.wk (WkV.int ‹_›) (Nat.zero_le _)⟩|exact TrIw.refl _ _ _ _ _|exact OWk.same _|exact OWk.loop _ _ _ _ _ _ _ (by repeat' (first|exact trivial|exact WkV.refl _|exact WkV.unk _|apply And.intro))|exact Nat.zero_le _|exact kle rfl|exact bdq|exact mxI rfl|exact mxS rfl|exact bd_ljC _ (by decide)|exact bd_giC _ (by decide)|exact bd_svC _ (by decide)|exact qfe _ (by decide)|apply And.intro):AtR D tm rd h n b W keep ut uh ux rs s' :=⟨z1.1,z1.2.1,z1.2.2.1,z1.2.2.2.1,z1.2.2.2.2.1,z1.2.2.2.2.2,z2,z3,z4,z5,z6,z7,z8⟩
end
end Go.Abs

/-! Loops, with heads whose old objects need not be looked at for what they refer to. -/
namespace Go.Abs
open Go
noncomputable section
section
variable {D:List ADf} {tm:Tr AV} {rd:Bool} {h:Tr AObj} {n b:Nat} {W:List Nat} {s':AS} {keep:List Nat} {ut:List (Nat × AV)} {uh:List (Nat × AObj)} {ux:List AObj}
theorem AtZ.at (ha:AtZ D tm rd h n b W keep ut uh ux s'):∀ i,i < n + ux.length → ∃ x,(appT ux n (tput uh h)).get i = some x ∧ (∃ y,s'.h.get i = some y ∧ atR b W i y x) ∧ ((∀ i,i < n → OBd n (hv h i)) → (∀ i,n ≤ i → h.get i = none) → OBd (n + ux.length) x) :=fun i hi => by
 obtain ⟨N,e,h1,h2,h3,h4,h5⟩ :=ha.all
 rw [qb1] at e
 subst e
 obtain ⟨x,hx⟩ :=qkm.lt h5 i hi
 refine ⟨x,hx,?_,fun hOB hend => ?_⟩
 ·obtain ⟨y,k1,k2⟩ :=TrIw.get i _ _ 0 1 h2 x hx
  rw [Nat.zero_add,Nat.one_mul] at k2
  exact ⟨y,k1,k2⟩
 ·rcases qpq ux n _ i x hx with k | k
  ·rcases (qcg _ _ _ _ k).2 with k | ⟨_,k⟩
   ·exact (h3.mem i x k).ok
   ·have hin:i < n :=Nat.lt_of_not_le fun hle => by rw [hend i hle] at k;cases k
    have :=hOB i hin
    unfold hv at this
    rw [k] at this
    exact this.mono (Nat.le_add_right _ _)
  ·exact (h4.mem x k).ok
theorem AtZ.wk (ha:AtZ D tm rd h n b W keep ut uh ux s'):∀ i,i < n + ux.length → OWk (hv s'.h i) (hv (qbv D tm rd h n b W keep ut uh ux).h i) :=fun i hi => by
 obtain ⟨x,k1,⟨y,k2,k3⟩,_⟩ :=ha.at i hi
 show OWk (hv s'.h i) (hv (appT ux n (tput uh h)) i)
 unfold hv
 rw [k1,k2]
 exact k3.1
theorem AtZ.same (ha:AtZ D tm rd h n b W keep ut uh ux s'):∀ x,x < n + ux.length → x < b → x ∉ W → hv (qbv D tm rd h n b W keep ut uh ux).h x = hv s'.h x :=fun i hi hb hw => by
 obtain ⟨x,k1,⟨y,k2,k3⟩,_⟩ :=ha.at i hi
 show hv (appT ux n (tput uh h)) i = hv s'.h i
 unfold hv
 rw [k1,k2]
 exact (k3.2 hb hw).symm
theorem AtZ.tms (ha:AtZ D tm rd h n b W keep ut uh ux s'):∀ i a,(qbv D tm rd h n b W keep ut uh ux).tm.get i = some a → ∃ y,s'.tm.get i = some y ∧ WkV y a ∧ bd a ≤ n + ux.length :=by
 intro i a hi
 obtain ⟨N,e,h1t,_⟩ :=ha.all
 rw [qb1] at e
 subst e
 obtain ⟨⟨y,h1⟩,h2⟩ :=qcg _ _ _ _ hi
 rcases h2 with h2 | ⟨_,h3⟩
 ·obtain ⟨⟨y,k1,k2⟩,k3⟩ :=h1t.mem i a h2
  exact ⟨y,k1,k2,k3⟩
 ·rw [qbb] at h3
  have hd:(s'.tm.get i).map (fun _ => AV.unk) = (tm.get i).map fun _ => AV.unk :=by rw [← qbb,← qbb,ha.dom]
  cases hs:tm.get i with
  |none => rw [hs] at h3;cases h3
  |some z =>
   rw [hs] at h3 hd
   simp only [Option.map_some,Option.some.injEq] at h3
   subst h3
   cases hs':s'.tm.get i with
   |none => rw [hs'] at hd;cases hd
   |some z' => exact ⟨z',rfl,WkV.unk z',Nat.zero_le _⟩
end
end
end Go.Abs

/-! Closures that append to a list that they have captured: the list's cell is one of the first objects, its chain stands wherever it does. -/
namespace Go.Abs
open Go
noncomputable section
abbrev qdo :=Option (List AV × Nat)
def qbs (ty:TypeId) (c:Nat):qdo → AObj
 |none => .cells (.node .nils .nil .nil) 1 ty
 |some (xs,k) => .cells (.node (.lst xs k (.ch c)) .nil .nil) 1 ty
def lchn (sz:Nat) (e:TypeId):qdo → AObj
 |none => .hole
 |some (_,k) => .chain k sz e
def LBd (m:Nat):qdo → Prop
 |none => True
 |some (xs,_) => bdl xs ≤ m
theorem qf0 {ty c} (L:qdo):qbs ty c L ≠ .hole :=by
 rcases L with _ | ⟨xs,k⟩ <;> exact fun e => nomatch e
theorem qhg (g:Gh) {ty c i} (L:qdo):g.bk (qbs ty c L) i = g.ob i :=by
 rcases L with _ | ⟨xs,k⟩ <;> rfl
theorem qkg (g:Gh) {sz e i} {L:qdo} (h:lchn sz e L ≠ .hole):g.bk (lchn sz e L) i = g.cb i :=by
 rcases L with _ | ⟨xs,k⟩
 ·exact absurd rfl h
 ·rfl
theorem qfz {sz e} {L:qdo}:lchn sz e L ≠ .hole ↔ L ≠ none :=by
 rcases L with _ | ⟨xs,k⟩
 ·exact ⟨fun h => absurd rfl h,fun h => absurd rfl h⟩
 ·exact ⟨fun _ h => (nomatch h),fun _ h => (nomatch h)⟩
theorem qce {x y:AV} {j:Nat} (h:(Tr.node x .nil .nil).get j = some y):y = x :=by
 rcases j with _ | j
 ·exact (Option.some.inj h).symm
 ·exfalso
  revert h
  by_cases hj:j % 2 = 0
  ·rw [Tr.get_node_even _ _ _ hj]
   show Tr.get .nil _ = _ → False
   rw [Tr.get_nil];exact fun h => nomatch h
  ·rw [Tr.get_node_odd _ _ _ hj]
   show Tr.get .nil _ = _ → False
   rw [Tr.get_nil];exact fun h => nomatch h
def AH.lput (H:AH) (a c:Nat) (x y:AObj):AH :=⟨max (c + 1) H.n,max (c + 1) H.keep,fun i => if i = a then x else if i = c then y else H.o i⟩
def ql2 (P:Program) (f:FuncId) (args:List AV) (b:Nat → AObj) (m a:Nat) (ty:TypeId) (sz:Nat) (e:TypeId) (L L':qdo) (v:AV):Prop :=
 ∀ B H c,m ≤ c → (∀ i,i < m → i ≠ a → H.o i = b i) → H.o a = qbs ty c L → H.o c = lchn sz e L → CSem P B f args H (.ret v) (H.lput a c (qbs ty c L') (lchn sz e L'))
theorem qw3 {g g':Gh} {w w':World} {S:Nat → Prop} (hx:Ext S g w g' w') {xs:List AV} {k c c':Nat} {v:Value} (hl:Lives S xs) (e1:g'.cn c' = g.cn c) (e2:g'.cb c' = g.cb c) (e3:g'.cc c' = g.cc c) (h:VRel g w (.lst xs k (.ch c)) v):VRel g' w' (.lst xs k (.ch c')) v :=by
 obtain ⟨b,off,cap,rfl,h1,h2,h3,h4⟩ :=h
 have :=VRel.ext hx (.lst xs k .no) _ ⟨hl,fun _ e => nomatch e⟩ ⟨b,off,cap,rfl,h1,h2,h3,trivial⟩
 obtain ⟨b',off',cap',e,k1,k2,k3,_⟩ :=this
 cases e
 refine ⟨b,off,cap,rfl,k1,k2,k3,?_⟩
 show k ≤ g'.cn c' ∧ (k = g'.cn c' → b = g'.cb c' ∧ off = 0 ∧ cap = g'.cc c')
 rw [e1,e2,e3]
 exact h4
theorem qiv {g g':Gh} {w w':World} {S:Nat → Prop} (hx:Ext S g w g' w') {ty c c' i} {L:qdo} (hl:∀ xs k,L = some (xs,k) → Lives S xs) (e1:L ≠ none → g'.cn c' = g.cn c ∧ g'.cb c' = g.cb c ∧ g'.cc c' = g.cc c) (hob:g'.ob i = g.ob i) (hh:w'.heap[g.ob i]? = w.heap[g.ob i]?) (hi:g'.im (g.ob i) = g.im (g.ob i)) (h:ORel g w i (qbs ty c L)):ORel g' w' i (qbs ty c' L) :=by
 rcases L with _ | ⟨xs,k⟩
 ·obtain ⟨arr,h1,h2,h3,h4⟩ :=h
  refine ⟨arr,by unfold qcx;rw [hob,hh];exact h1,by rw [hob,hi];exact h2,h3,fun j hj => ?_⟩
  obtain ⟨a,v,k1,k2,k3⟩ :=h4 j hj
  obtain rfl :=qce k1
  exact ⟨_,v,k1,k2,k3⟩
 ·obtain ⟨arr,h1,h2,h3,h4⟩ :=h
  refine ⟨arr,by unfold qcx;rw [hob,hh];exact h1,by rw [hob,hi];exact h2,h3,fun j hj => ?_⟩
  obtain rfl:j = 0 :=by omega
  obtain ⟨a,v,k1,k2,k3⟩ :=h4 0 hj
  obtain rfl :=qce k1
  obtain ⟨q1,q2,q3⟩ :=e1 (fun e => nomatch e)
  exact ⟨_,v,rfl,k2,qw3 hx (hl xs k rfl) q1 q2 q3 k3⟩
theorem qlg {g g':Gh} {w w':World} {sz e c c'} {L:qdo} (e1:L ≠ none → g'.cn c' = g.cn c ∧ g'.cb c' = g.cb c ∧ g'.cc c' = g.cc c) (hh:w'.heap[g.cb c]? = w.heap[g.cb c]?) (hi:g'.im (g.cb c) = g.im (g.cb c)) (h:ORel g w c (lchn sz e L)):ORel g' w' c' (lchn sz e L) :=by
 rcases L with _ | ⟨xs,k⟩
 ·trivial
 ·obtain ⟨arr,h1,h2,h3,h4,h5⟩ :=h
  obtain ⟨q1,q2,q3⟩ :=e1 (fun e => nomatch e)
  exact ⟨arr,by rw [q2,hh];exact h1,by rw [q2,hi];exact h2,by rw [q3];exact h3,by rw [q3];exact h4,by rw [q1];exact h5⟩
theorem qu9 {P:Program} {f:FuncId} {args:List AV} {b:Nat → AObj} {m a:Nat} {ty:TypeId} {sz:Nat} {e:TypeId} {L L':qdo} {v:AV} (ham:a < m) (ha:bdl args ≤ m) (hb:∀ i,i < m → i ≠ a → OBd m (b i)) (hL:LBd m L) (hL':LBd m L') (hbv:bd v ≤ m) (hmono:L ≠ none → L' ≠ none)
  (h:∀ B (Hc:AH),(Hc.o = fun i => if i = a then qbs ty m L else if i < m then b i else if i = m then lchn sz e L else .hole) → ∃ H1 u c1,m ≤ c1 ∧ (L ≠ none → c1 = m) ∧ (∀ i,i < m → i ≠ a → H1.o i = b i) ∧ H1.o a = qbs ty c1 L' ∧ (L' ≠ none → H1.o c1 = lchn sz e L') ∧ WkV u v ∧ CSem P B f args Hc (.ret u) H1):ql2 P f args b m a ty sz e L L' v :=by
 intro B H c hc hH hHa hHc g vs cs w hr hvs hl
 let gI:Gh :=⟨g.ob,g.im,fun i => if i = m then g.cn c else g.cn i,fun i => if i = m then g.cb c else g.cb i,fun i => if i = m then g.cc c else g.cc i⟩
 let Hc:AH :=⟨m + 1,m + 1,fun i => if i = a then qbs ty m L else if i < m then b i else if i = m then lchn sz e L else .hole⟩
 have ca:Hc.o a = qbs ty m L :=if_pos rfl
 have ci:∀ i,i < m → i ≠ a → Hc.o i = b i :=fun i hi hn => by
  show (if i = a then _ else if i < m then b i else _) = _
  rw [if_neg hn,if_pos hi]
 have cm:Hc.o m = lchn sz e L :=by
  show (if m = a then _ else if m < m then b m else if m = m then _ else _) = _
  rw [if_neg (by omega),if_neg (by omega),if_pos rfl]
 have co:∀ i,m < i → Hc.o i = .hole :=fun i hi => by
  show (if i = a then _ else if i < m then b i else if i = m then _ else _) = _
  rw [if_neg (by omega),if_neg (by omega),if_neg (by omega)]
 have bkI:∀ x i,i ≠ m → gI.bk x i = g.bk x i :=fun x i hi => by cases x <;> first|rfl|exact if_neg hi
 have hx0:Ext (fun i => i < m) g w gI w :=⟨fun _ _ => rfl,fun i hi => by show _ ≤ (if i = m then _ else _);rw [if_neg (Nat.ne_of_lt hi)];exact Nat.le_refl _,fun i hi _ => ⟨if_neg (Nat.ne_of_lt hi),if_neg (Nat.ne_of_lt hi)⟩,fun _ => Nat.le_refl _,fun _ _ _ => rfl⟩
 have eI:gI.cn m = g.cn c ∧ gI.cb m = g.cb c ∧ gI.cc m = g.cc c :=⟨if_pos rfl,if_pos rfl,if_pos rfl⟩
 have le:∀ i,Hc.o i ≠ .hole → i ≤ m :=fun i hi => by
  apply Classical.byContradiction
  intro k
  exact hi (co i (by omega))
 -- each object of the smaller heap is one of the greater one
 have key:∀ i,Hc.o i ≠ .hole → H.o (if i = m then c else i) ≠ .hole ∧ gI.bk (Hc.o i) i = g.bk (H.o (if i = m then c else i)) (if i = m then c else i) :=fun i hi => by
  by_cases e1:i = m
  ·subst e1
   rw [if_pos rfl]
   rw [cm] at hi ⊢
   rw [hHc]
   refine ⟨hi,?_⟩
   rw [qkg _ hi,qkg _ hi];exact eI.2.1
  ·rw [if_neg e1]
   by_cases e2:i = a
   ·subst e2
    rw [ca,hHa,qhg,qhg]
    exact ⟨qf0 L,rfl⟩
   ·have hlt :=le i hi
    rw [ci i (by omega) e2] at hi ⊢
    rw [hH i (by omega) e2]
    exact ⟨hi,bkI _ _ e1⟩
 have nh:∀ i,i < m → H.o i ≠ .hole → Hc.o i ≠ .hole :=fun i hi k => by
  by_cases e2:i = a
  ·subst e2;rw [ca];exact qf0 L
  ·rw [ci i hi e2,← hH i hi e2];exact k
 have lxs:∀ xs k,L = some (xs,k) → Lives H.L xs ∧ bdl xs ≤ m :=fun xs k e1 => by
  have h1 :=hr.live a
  rw [hHa,e1] at h1
  have h2:Live H.L (.lst xs k (.ch c)) :=h1 0 _ rfl
  rw [e1] at hL
  exact ⟨h2.1,hL⟩
 have hrc:HRel gI B w Hc :=by
  refine ⟨fun i hi => co i hi,fun i hi => ?_,fun i j hi hj k => ?_,fun i => ?_,fun i => ?_,fun i => ?_,hr.imz,hr.hB⟩
  ·have :=key i hi
   rw [this.2];exact hr.ge _ this.1
  ·have k1 :=key i hi
   have k2 :=key j hj
   have l1 :=le i hi
   have l2 :=le j hj
   rw [k1.2,k2.2] at k
   have :=hr.inj _ _ k1.1 k2.1 k
   split at this <;> split at this <;> omega
  ·by_cases e2:i = a
   ·subst e2
    rw [ca]
    have h1 :=hr.rel i
    rw [hHa] at h1
    exact qiv hx0 (fun xs k e1 => Lives.mono (fun _ h => h.2) xs (Lives.below xs (lxs xs k e1).1 (lxs xs k e1).2)) (fun _ => eI) rfl rfl rfl h1
   ·by_cases e1:i < m
    ·rw [ci i e1 e2]
     have h1 :=hr.rel i
     have h2 :=hr.live i
     rw [hH i e1 e2] at h1 h2
     exact h1.ext hx0 (qbo.mono (fun _ h => h.2) (qbo.below h2 (hb i e1 e2))) e1 rfl rfl (if_neg (Nat.ne_of_lt e1))
    ·by_cases e3:i = m
     ·subst e3
      rw [cm]
      have h1 :=hr.rel c
      rw [hHc] at h1
      exact qlg (fun _ => eI) rfl rfl h1
     ·rw [co i (by omega)];trivial
  ·by_cases e2:i = a
   ·subst e2
    rw [ca]
    rcases hLe:L with _ | ⟨xs,k⟩
    ·intro j x hx
     obtain rfl :=qce hx
     trivial
    ·intro j x hx
     obtain rfl :=qce hx
     have h1 :=lxs xs k hLe
     refine ⟨Lives.mono (fun j hj => nh j hj.2 hj.1) xs (Lives.below xs h1.1 h1.2),fun c' e => ?_⟩
     cases e
     show Hc.o m ≠ .hole
     rw [cm,hLe];exact fun e => nomatch e
   ·by_cases e1:i < m
    ·have h2 :=hr.live i
     rw [hH i e1 e2] at h2
     rw [ci i e1 e2]
     exact qbo.mono (fun j hj => nh j hj.2 hj.1) (qbo.below h2 (hb i e1 e2))
    ·by_cases e3:i = m
     ·subst e3
      rw [cm]
      rcases L with _ | ⟨xs,k⟩ <;> trivial
     ·rw [co i (by omega)];trivial
  ·show OBd (max (i + 1) (m + 1)) _
   by_cases e2:i = a
   ·subst e2
    rw [ca]
    rcases L with _ | ⟨xs,k⟩
    ·intro j x hx
     obtain rfl :=qce hx
     exact Nat.zero_le _
    ·intro j x hx
     obtain rfl :=qce hx
     have hL:bdl xs ≤ m :=hL
     exact Nat.max_le.2 ⟨by omega,by omega⟩
   ·by_cases e1:i < m
    ·rw [ci i e1 e2];exact (hb i e1 e2).mono (by omega)
    ·by_cases e3:i = m
     ·subst e3
      rw [cm]
      rcases L with _ | ⟨xs,k⟩ <;> trivial
     ·rw [co i (by omega)];trivial
 have hlm:Lives (fun i => H.L i ∧ i < m) args :=Lives.below args hl ha
 have hlc:Lives Hc.L args :=Lives.mono (fun i hi => nh i hi.2 hi.1) args hlm
 have hvI:VRels gI w args vs.toList :=VRels.ext hx0 args _ (Lives.mono (fun _ h => h.2) args hlm) hvs
 obtain ⟨H1,u,c1,hc1,hcm,h1,h1a,h1c,hw,hcs⟩ :=h B Hc rfl
 obtain ⟨g',fr',w',ho1,hs,hf,u',hlv,hvu,hlu⟩ :=hcs gI vs cs w hrc hvI hlc
 let g2:Gh :=⟨fun i => if i < m then g'.ob i else g.ob i,g'.im,fun i => if i < m then g'.cn i else if i = c then g'.cn c1 else g.cn i,fun i => if i < m then g'.cb i else if i = c then g'.cb c1 else g.cb i,fun i => if i < m then g'.cc i else if i = c then g'.cc c1 else g.cc i⟩
 have ncm:¬ c < m :=by omega
 have bk1:∀ x i,i < m → g2.bk x i = g'.bk x i :=fun x i hi => by cases x <;> exact if_pos hi
 have bk2:∀ x i,¬ i < m → i ≠ c → g2.bk x i = g.bk x i :=fun x i hi hn => by
  cases x
  case chain => show (if i < m then _ else if i = c then _ else _) = _;rw [if_neg hi,if_neg hn];rfl
  case mrow => show (if i < m then _ else if i = c then _ else _) = _;rw [if_neg hi,if_neg hn];rfl
  all_goals exact if_neg hi
 have g2c:g2.cn c = g'.cn c1 ∧ g2.cb c = g'.cb c1 ∧ g2.cc c = g'.cc c1 :=by
  refine ⟨?_,?_,?_⟩
  all_goals
   show (if c < m then _ else if c = c then _ else _) = _
   rw [if_neg ncm,if_pos rfl]
 have hx1:Ext (fun i => i < m) g' w' g2 w' :=⟨fun i hi => if_pos hi,fun i hi => by show _ ≤ (if i < m then _ else _);rw [if_pos hi];exact Nat.le_refl _,fun i hi _ => ⟨if_pos hi,if_pos hi⟩,fun _ => Nat.le_refl _,fun _ _ _ => rfl⟩
 have hLm:∀ i,H.L i → i < m → Hc.L i :=fun i hi hlt => nh i hlt hi
 have hLc:H.L c → c1 = m ∧ Hc.L m :=fun hi => by
  have hi:H.o c ≠ .hole :=hi
  rw [hHc] at hi
  refine ⟨hcm (qfz.1 hi),?_⟩
  show Hc.o m ≠ .hole
  rw [cm];exact hi
 have hx2:Ext H.L g w g2 w' :=by
  refine ⟨fun i hi => ?_,fun i hi => ?_,fun i hi e => ?_,ho1.ext.im,ho1.ext.cell⟩
  ·show (if i < m then g'.ob i else g.ob i) = _
   by_cases k:i < m
   ·rw [if_pos k];exact ho1.ext.ob i (hLm i hi k)
   ·rw [if_neg k]
  ·show _ ≤ (if i < m then g'.cn i else if i = c then g'.cn c1 else g.cn i)
   by_cases k:i < m
   ·rw [if_pos k]
    have :=ho1.ext.cn i (hLm i hi k)
    have e:gI.cn i = g.cn i :=if_neg (Nat.ne_of_lt k)
    rwa [e] at this
   ·rw [if_neg k]
    by_cases k2:i = c
    ·subst k2
     rw [if_pos rfl,(hLc hi).1]
     have :=ho1.ext.cn m (hLc hi).2
     rwa [eI.1] at this
    ·rw [if_neg k2];exact Nat.le_refl _
  ·have e:(if i < m then g'.cn i else if i = c then g'.cn c1 else g.cn i) = g.cn i :=e
   show (if i < m then g'.cb i else if i = c then g'.cb c1 else g.cb i) = _ ∧ (if i < m then g'.cc i else if i = c then g'.cc c1 else g.cc i) = _
   by_cases k:i < m
   ·rw [if_pos k] at e
    rw [if_pos k,if_pos k]
    have e1:gI.cn i = g.cn i :=if_neg (Nat.ne_of_lt k)
    have :=ho1.ext.cb i (hLm i hi k) (by rw [e1];exact e)
    have e2:gI.cb i = g.cb i :=if_neg (Nat.ne_of_lt k)
    have e3:gI.cc i = g.cc i :=if_neg (Nat.ne_of_lt k)
    rw [e2,e3] at this
    exact this
   ·rw [if_neg k] at e
    rw [if_neg k,if_neg k]
    by_cases k2:i = c
    ·subst k2
     rw [if_pos rfl,(hLc hi).1] at e
     rw [if_pos rfl,if_pos rfl,(hLc hi).1]
     have :=ho1.ext.cb m (hLc hi).2 (by rw [eI.1];exact e)
     rw [eI.2.1,eI.2.2] at this
     exact this
    ·rw [if_neg k2,if_neg k2];exact ⟨rfl,rfl⟩
 let H2:AH :=H.lput a c (qbs ty c L') (lchn sz e L')
 have oa:H2.o a = qbs ty c L' :=if_pos rfl
 have nca:c ≠ a :=by omega
 have oc:H2.o c = lchn sz e L' :=by
  show (if c = a then _ else if c = c then _ else _) = _
  rw [if_neg nca,if_pos rfl]
 have oo:∀ i,i ≠ a → i ≠ c → H2.o i = H.o i :=fun i h1 h2 => by
  show (if i = a then _ else if i = c then _ else _) = _
  rw [if_neg h1,if_neg h2]
 -- the objects of the new heap: those that the call has looked at, and the others
 have keyA:∀ i,i < m ∨ i = c → H2.o i ≠ .hole → H1.o (if i = c then c1 else i) ≠ .hole ∧ g2.bk (H2.o i) i = g'.bk (H1.o (if i = c then c1 else i)) (if i = c then c1 else i) :=fun i hi hn => by
  by_cases e1:i = c
  ·subst e1
   rw [if_pos rfl]
   rw [oc] at hn ⊢
   rw [h1c (qfz.1 hn)]
   refine ⟨hn,?_⟩
   rw [qkg _ hn,qkg _ hn];exact g2c.2.1
  ·rw [if_neg e1]
   have hlt:i < m :=hi.resolve_right e1
   by_cases e2:i = a
   ·subst e2
    rw [oa,h1a,qhg,qhg]
    exact ⟨qf0 L',if_pos hlt⟩
   ·rw [oo i e2 e1,hH i hlt e2] at hn ⊢
    rw [h1 i hlt e2]
    exact ⟨hn,bk1 _ _ hlt⟩
 have keyB:∀ i,¬ (i < m ∨ i = c) → H2.o i ≠ .hole → H.o i ≠ .hole ∧ g2.bk (H2.o i) i = g.bk (H.o i) i :=fun i hi hn => by
  rw [oo i (by omega) (by omega)] at hn ⊢
  exact ⟨hn,bk2 _ _ (by omega) (by omega)⟩
 have notOwned:∀ i,¬ (i < m ∨ i = c) → H.o i ≠ .hole → ¬ qek gI Hc (g.bk (H.o i) i) :=fun i hi he ⟨j,hj,ej⟩ => by
  have k :=key j hj
  have l :=le j hj
  rw [k.2] at ej
  have :=hr.inj _ _ k.1 he ej
  split at this <;> omega
 have ownI:∀ k,qek gI Hc k → qek g H k :=fun k ⟨j,hj,ej⟩ => by
  have q :=key j hj
  rw [q.2] at ej
  exact ⟨_,q.1,ej⟩
 have lift:∀ i,H1.L i ∧ i < m → H2.L i :=fun i hi => by
  show H2.o i ≠ .hole
  by_cases e2:i = a
  ·subst e2;rw [oa];exact qf0 L'
  ·rw [oo i e2 (by omega),hH i hi.2 e2,← h1 i hi.2 e2];exact hi.1
 have hL2:∀ i,H.L i → H2.L i :=fun i hi => by
  show H2.o i ≠ .hole
  by_cases e2:i = a
  ·subst e2;rw [oa];exact qf0 L'
  ·by_cases e1:i = c
   ·subst e1
    rw [oc]
    have hi:H.o i ≠ .hole :=hi
    rw [hHc] at hi
    exact qfz.2 (hmono (qfz.1 hi))
   ·rw [oo i e2 e1];exact hi
 have lxs':∀ xs k,L' = some (xs,k) → Lives (fun i => H1.L i ∧ i < m) xs :=fun xs k e1 => by
  have q1 :=ho1.rel.live a
  rw [h1a,e1] at q1
  have q2:Live H1.L (.lst xs k (.ch c1)) :=q1 0 _ rfl
  rw [e1] at hL'
  exact Lives.below xs q2.1 hL'
 have hrel:HRel g2 B w' H2 :=by
  refine ⟨fun i hi => ?_,fun i hi => ?_,fun i j hi hj k => ?_,fun i => ?_,fun i => ?_,fun i => ?_,ho1.rel.imz,ho1.rel.hB⟩
  ·have hi:max (c + 1) H.n ≤ i :=hi
   rw [oo i (by omega) (by omega)];exact hr.wf i (by omega)
  ·by_cases k:i < m ∨ i = c
   ·have q :=keyA i k hi
    rw [q.2];exact ho1.rel.ge _ q.1
   ·have q :=keyB i k hi
    rw [q.2]
    have :=hr.ge _ q.1
    exact ⟨this.1,Nat.lt_of_lt_of_le this.2 ho1.below.size⟩
  ·have mixed:∀ i j,(i < m ∨ i = c) → ¬ (j < m ∨ j = c) → H2.o i ≠ .hole → H2.o j ≠ .hole → g2.bk (H2.o i) i = g2.bk (H2.o j) j → False :=fun i j ki kj hi hj e => by
    have q1 :=keyA i ki hi
    have q2 :=keyB j kj hj
    rw [q1.2,q2.2] at e
    have hlt :=(hr.ge j q2.1).2
    rcases ho1.own (g.bk (H.o j) j) ⟨_,q1.1,e⟩ with h | h
    ·exact notOwned j kj q2.1 h
    ·omega
   by_cases ki:i < m ∨ i = c
   ·by_cases kj:j < m ∨ j = c
    ·have q1 :=keyA i ki hi
     have q2 :=keyA j kj hj
     rw [q1.2,q2.2] at k
     have :=ho1.rel.inj _ _ q1.1 q2.1 k
     split at this <;> split at this <;> omega
    ·exact (mixed i j ki kj hi hj k).elim
   ·by_cases kj:j < m ∨ j = c
    ·exact (mixed j i kj ki hj hi k.symm).elim
    ·have q1 :=keyB i ki hi
     have q2 :=keyB j kj hj
     rw [q1.2,q2.2] at k
     exact hr.inj i j q1.1 q2.1 k
  ·by_cases e2:i = a
   ·subst e2
    rw [oa]
    have q :=ho1.rel.rel i
    rw [h1a] at q
    exact qiv hx1 (fun xs k e1 => Lives.mono (fun _ h => h.2) xs (lxs' xs k e1)) (fun _ => g2c) (if_pos ham) rfl rfl q
   ·by_cases e1:i = c
    ·subst e1
     rw [oc]
     by_cases e3:L' = none
     ·rw [e3];trivial
     ·have q :=ho1.rel.rel c1
      rw [h1c e3] at q
      exact qlg (fun _ => g2c) rfl rfl q
    ·by_cases k:i < m
     ·rw [oo i e2 e1,hH i k e2]
      have q :=ho1.rel.rel i
      have q1 :=ho1.rel.live i
      rw [h1 i k e2] at q q1
      exact q.ext hx1 (qbo.mono (fun _ h => h.2) (qbo.below q1 (hb i k e2))) k rfl rfl (if_pos k)
     ·rw [oo i e2 e1]
      by_cases e3:H.o i = .hole
      ·rw [e3];trivial
      ·have hfr :=ho1.frame _ (hr.ge i e3).2 (notOwned i (by omega) e3)
       exact (hr.rel i).ext hx2 (hr.live i) e3 hfr.1 hfr.2 (by
        show (if i < m then _ else if i = c then _ else _) = _
        rw [if_neg k,if_neg e1])
  ·by_cases e2:i = a
   ·subst e2
    rw [oa]
    rcases hLe:L' with _ | ⟨xs,k⟩
    ·intro j x hx
     obtain rfl :=qce hx
     trivial
    ·intro j x hx
     obtain rfl :=qce hx
     refine ⟨Lives.mono lift xs (lxs' xs k hLe),fun c' e => ?_⟩
     cases e
     show H2.o c ≠ .hole
     rw [oc,hLe];exact fun e => nomatch e
   ·by_cases e1:i = c
    ·subst e1
     rw [oc]
     rcases L' with _ | ⟨xs,k⟩ <;> trivial
    ·by_cases k:i < m
     ·rw [oo i e2 e1,hH i k e2]
      have q1 :=ho1.rel.live i
      rw [h1 i k e2] at q1
      exact qbo.mono lift (qbo.below q1 (hb i k e2))
     ·rw [oo i e2 e1];exact qbo.mono hL2 (hr.live i)
  ·show OBd (max (i + 1) (max (c + 1) H.keep)) _
   by_cases e2:i = a
   ·subst e2
    rw [oa]
    rcases L' with _ | ⟨xs,k⟩
    ·intro j x hx
     obtain rfl :=qce hx
     exact Nat.zero_le _
    ·intro j x hx
     obtain rfl :=qce hx
     have hL':bdl xs ≤ m :=hL'
     exact Nat.max_le.2 ⟨by omega,by omega⟩
   ·by_cases e1:i = c
    ·subst e1
     rw [oc]
     rcases L' with _ | ⟨xs,k⟩ <;> trivial
    ·rw [oo i e2 e1]
     by_cases k:i < m
     ·rw [hH i k e2];exact (hb i k e2).mono (by omega)
     ·exact (hr.kp i).mono (by omega)
 refine ⟨g2,fr',w',⟨hrel,hx2,ho1.below,hL2,fun k hk hn => ?_,fun k ⟨i,hi,ek⟩ => ?_⟩,hs,hf,u',hlv,?_,?_⟩
 ·exact ho1.frame k hk fun q => hn (ownI k q)
 ·by_cases l:i < m ∨ i = c
  ·have q :=keyA i l hi
   rw [q.2] at ek
   rcases ho1.own k ⟨_,q.1,ek⟩ with h | h
   ·exact .inl (ownI k h)
   ·exact .inr h
  ·have q :=keyB i l hi
   rw [q.2] at ek
   exact .inl ⟨i,q.1,ek⟩
 ·exact VRel.ext hx1 v u' (Live.mono (fun _ h => h.2) v (Live.below v (hw.lv _ hlu) hbv)) (hw.wk _ _ _ hvu)
 ·exact Live.mono lift v (Live.below v (hw.lv _ hlu) hbv)
def ql1 (b:Nat → AObj) (h:Tr AObj) (a:Nat) (k:Nat):Prop :=@Nat.rec (fun _ => Prop) True (fun i ih => (i = a ∨ hv h i = b i) ∧ ih) k
theorem ql1.lt {b:Nat → AObj} {h:Tr AObj} {a:Nat}:∀ {k:Nat},ql1 b h a k → ∀ i,i < k → i ≠ a → hv h i = b i
 |k + 1,hk,i,hi,hn => by
  by_cases e:i = k
  ·subst e;exact hk.1.resolve_left hn
  ·exact ql1.lt hk.2 i (by omega) hn
def qt3 (m:Nat) (b:Nat → AObj) (a:Nat) (k:Nat):Prop :=@Nat.rec (fun _ => Prop) True (fun i ih => (i = a ∨ BdO m (b i)) ∧ ih) k
theorem qt3.lt {m:Nat} {b:Nat → AObj} {a:Nat}:∀ {k:Nat},qt3 m b a k → ∀ i,i < k → i ≠ a → OBd m (b i)
 |k + 1,hk,i,hi,hn => by
  by_cases e:i = k
  ·subst e;exact (hk.1.resolve_left hn).ok
  ·exact qt3.lt hk.2 i (by omega) hn
theorem qdk {P:Program} {E:EqT → PcT → Env} {q0:EqT} (hE:(E q0 (symPc P)).Ok) (hP:(E q0 (symPc P)).P = P) {f:FuncId} {args:List AV} {v:AV} {h:Tr AObj} {b:Nat → AObj} {m a n:Nat} {ty:TypeId} {sz:Nat} {e:TypeId} {L L':qdo} (hend:HEnd h n) (hn:n = m + L.isSome.toNat) (ham:a < m) (ha:bdl args ≤ m) (hbv:bd v ≤ m) (hb:qt3 m b a m) (hL:LBd m L) (hL':LBd m L') (hmono:L ≠ none → L' ≠ none)
  (hq:ql1 b h a m) (hha:hv h a = qbs ty m L) (hhc:hv h m = lchn sz e L)
  (run:∀ S q pc,S = qbg P → q = q0 → pc = symPc P → (E q pc).Ok → exFn (E q pc) (step (E q pc) S) f .normal args .no h n fun r _ h1 _ _ => ∃ u c1,r = .ret u ∧ WkV u v ∧ m ≤ c1 ∧ (L ≠ none → c1 = m) ∧ ql1 b h1 a m ∧ hv h1 a = qbs ty c1 L' ∧ (L' ≠ none → hv h1 c1 = lchn sz e L')):ql2 P f args b m a ty sz e L L' v :=by
 have hs :=qhn hE
 obtain ⟨r,pm',h1,n1,_,⟨u,c1,rfl,hw,k1,k2,k3,k4,k5⟩,_,_,h3⟩ :=qef hE (S :=step (E q0 (symPc P)) (qbg P)) (by rw [hP] at hs;rw [hP];exact hs) f .normal args .no h n _ (run _ _ _ rfl rfl rfl hE) hend
 refine qu9 ham ha hb.lt hL hL' hbv hmono fun B Hc hc => ?_
 have hch:Hc.o = hv h :=by
  rw [hc];funext i
  by_cases e1:i = a
  ·subst e1;rw [if_pos rfl,hha]
  ·rw [if_neg e1]
   by_cases e2:i < m
   ·rw [if_pos e2,hq.lt i e2 e1]
   ·rw [if_neg e2]
    by_cases e3:i = m
    ·subst e3;rw [if_pos rfl,hhc]
    ·rw [if_neg e3]
     refine (hend.hole ?_).symm
     rw [hn]
     have:L.isSome.toNat ≤ 1 :=by cases L <;> exact kle rfl
     omega
 obtain ⟨H1,q1,q2⟩ :=h3 B Hc hch
 rw [hP] at q2
 exact ⟨H1,u,c1,k1,k2,fun i hi hn => by rw [q1];exact k3.lt i hi hn,by rw [q1];exact k4,fun hL => by rw [q1];exact k5 hL,hw,CSem.of_F q2⟩
section
variable {P:Program} {S:Sub} (hS:S = qbg P) {f:FuncId} {args:List AV} {h:Tr AObj} {n:Nat} {K:AEnd → Tr AObj → Nat → List Nat → Prop} {b:Nat → AObj} {m a:Nat} {ty:TypeId} {sz:Nat} {e:TypeId} {v:AV}
include hS
theorem qfh (hf:ql2 P f args b m a ty sz e none none v) (hm:m ≤ n) (he:ql1 b h a m) (ha:hv h a = qbs ty 0 none) (hk:K (.ret v) h n []):S.call f args h n K :=by
 subst hS
 intro hend
 refine ⟨.ret v,h,n,[],hk,hend,fun _ _ _ => rfl,fun B H hH => ⟨_,?_,hf B H n hm (fun i hi hn => by rw [hH];exact he.lt i hi hn) (by rw [hH];exact ha) (by rw [hH];exact hend.hole (Nat.le_refl _))⟩⟩
 funext i
 show (if i = a then _ else if i = n then _ else H.o i) = _
 by_cases e1:i = a
 ·subst e1;rw [if_pos rfl,ha];rfl
 ·rw [if_neg e1]
  by_cases e2:i = n
  ·subst e2;rw [if_pos rfl,hend.hole (Nat.le_refl _)];rfl
  ·rw [if_neg e2,hH]
theorem qfg {xs:List AV} {k:Nat} (hf:ql2 P f args b m a ty sz e none (some (xs,k)) v) (hm:m ≤ n) (ham:a < m) (he:ql1 b h a m) (ha:hv h a = qbs ty 0 none) (h1:hv (tput [(a,qbs ty n (some (xs,k)))] h) a = qbs ty n (some (xs,k))) (h2:(tadd (pathOf n) (tput [(a,qbs ty n (some (xs,k)))] h) (.chain k sz e)).get n = some (.chain k sz e))
  (hk:K (.ret v) (tadd (pathOf n) (tput [(a,qbs ty n (some (xs,k)))] h) (.chain k sz e)) (n + 1) [a]):S.call f args h n K :=by
 subst hS
 intro hend
 have hne:∀ x,x ≠ a → hv (tput [(a,qbs ty n (some (xs,k)))] h) x = hv h x :=fun x hx => by unfold hv;rw [ql8 _ _ _ (by simpa [qfc] using hx)]
 have hadd:∀ x,x ≠ n → hv (tadd (pathOf n) (tput [(a,qbs ty n (some (xs,k)))] h) (.chain k sz e)) x = hv (tput [(a,qbs ty n (some (xs,k)))] h) x :=fun x hx => by
  unfold hv Tr.get
  rw [qge _ _ _ fun e => hx (qcu _ _ e).symm]
 refine ⟨.ret v,_,n + 1,[a],hk,qcq [.chain k sz e] n _ (qdq hend),fun x hx hn => ?_,fun B H hH => ⟨_,?_,hf B H n hm (fun i hi hn => by rw [hH];exact he.lt i hi hn) (by rw [hH];exact ha) (by rw [hH];exact hend.hole (Nat.le_refl _))⟩⟩
 ·rw [hadd x (by omega),hne x (by simpa using hn)]
 ·funext i
  show (if i = a then _ else if i = n then _ else H.o i) = _
  by_cases e1:i = a
  ·subst e1;rw [if_pos rfl,hadd i (by omega),h1]
  ·rw [if_neg e1]
   by_cases e2:i = n
   ·subst e2;rw [if_pos rfl];unfold hv;rw [h2];rfl
   ·rw [if_neg e2,hadd i e2,hne i e1,hH]
theorem qff {xs ys:List AV} {j k:Nat} (hf:ql2 P f args b m a ty sz e (some (xs,j)) (some (ys,k)) v) (c:Nat) (hm:m ≤ c) (he:ql1 b h a m) (ha:hv h a = qbs ty c (some (xs,j))) (hc:hv h c = .chain j sz e) (h1:hv (tput [(a,qbs ty c (some (ys,k))),(c,.chain k sz e)] h) a = qbs ty c (some (ys,k))) (h2:hv (tput [(a,qbs ty c (some (ys,k))),(c,.chain k sz e)] h) c = .chain k sz e)
  (hk:K (.ret v) (tput [(a,qbs ty c (some (ys,k))),(c,.chain k sz e)] h) n [a,c]):S.call f args h n K :=by
 subst hS
 intro hend
 have hne:∀ x,x ≠ a → x ≠ c → hv (tput [(a,qbs ty c (some (ys,k))),(c,.chain k sz e)] h) x = hv h x :=fun x hx hy => by unfold hv;rw [ql8 _ _ _ (by simp [qfc,hx,hy])]
 refine ⟨.ret v,_,n,[a,c],hk,qdq hend,fun x _ hx => ?_,fun B H hH => ⟨_,?_,hf B H c hm (fun i hi hn => by rw [hH];exact he.lt i hi hn) (by rw [hH];exact ha) (by rw [hH];exact hc)⟩⟩
 ·simp only [List.mem_cons,List.not_mem_nil,or_false,not_or] at hx
  exact hne x hx.1 hx.2
 ·funext i
  show (if i = a then _ else if i = c then _ else H.o i) = _
  by_cases e1:i = a
  ·subst e1;rw [if_pos rfl,h1]
  ·rw [if_neg e1]
   by_cases e2:i = c
   ·subst e2;rw [if_pos rfl,h2];rfl
   ·rw [if_neg e2,hne i e1 e2,hH]
end
end
end Go.Abs

namespace Go.Abs
open Go
noncomputable section
theorem qft {P:Program} {E:EqT → PcT → Env} {q0:EqT} (hE:(E q0 (symPc P)).Ok) (hP:(E q0 (symPc P)).P = P) {f:FuncId} {args:List AV} {v:AV} (ha:Lives noL args) (hl:Live noL v)
  (h:∀ S q pc,S = qbg P → q = q0 → pc = symPc P → (E q pc).Ok → exFn (E q pc) S f .normal args .no .nil 0 fun e _ _ _ _ => ∃ u,e = .ret u ∧ Wk u v):Pure P f args v :=by
 have hs :=qbk P
 obtain ⟨e,pm',h',n',_,⟨u,rfl,hw⟩,_,_,h3⟩ :=qef hE (S :=qbg P) (by rw [hP];exact hs) f .normal args .no .nil 0 _ (h _ _ _ rfl rfl rfl hE) qcr
 refine qmn (fun B => ?_) ha hw hl
 obtain ⟨H',h4,h5⟩ :=h3 B AH.nil qc8.symm
 rw [hP] at h5
 exact ⟨H',CSem.of_F h5⟩
theorem qdv {E:Env} {S:Sub} (hS:S = qbg E.P) {x y:Code} {s:AS} {K:KE}
  (h:S.code x s fun e s' => @AEx.rec (fun _ => Prop) (S.code y s' K) (fun id => K (.exit id) s') (K .ret s') (fun l => K (.panic l) s') e):S.code (.seq x y) s K :=by
 subst hS
 intro he
 obtain ⟨e,s1,h1,h2,h3⟩ :=h he
 by_cases hn:e = .normal
 ·subst hn
  obtain ⟨e2,s2,h4,h5,h6⟩ :=h1 h2.he
  refine ⟨e2,s2,h4,h2.trans h5,fun B H hH => ?_⟩
  obtain ⟨H1,k1,k2⟩ :=h3 B H hH
  obtain ⟨H2,k3,k4⟩ :=h6 B H1 k1
  exact ⟨H2,k3,Sem.seq k2 k4⟩
 ·refine ⟨e,s1,?_,h2,fun B H hH => ?_⟩
  ·cases e <;> first
    |exact absurd rfl hn
    |exact h1
  ·obtain ⟨H1,k1,k2⟩ :=h3 B H hH
   exact ⟨H1,k1,Sem.seq_exit k2 hn⟩
theorem qe0 {E:Env} {S:Sub} (hS:S = qbg E.P) {A:Type} {x y:Code} {tm:Tr AV} {df:List ADf} {pm:APm} {rd:Bool} {h:Tr AObj} {n b:Nat} {W:List Nat} {K:KE}
  (keep:List Nat) (ut:A → List (Nat × AV)) (uh:A → List (Nat × AObj)) (ux:A → List AObj) (I:A → Prop) (hbn:b ≤ n)
  (h1:S.code x ⟨tm,df,pm,rd,h,n,b,W⟩ fun e s' => @AEx.rec (fun _ => Prop) (∃ a,I a ∧ AtG tm rd h n b W keep (ut a) (uh a) (ux a) s') (fun id => K (.exit id) s') (K .ret s') (fun l => K (.panic l) s') e)
  (h2:∀ a,I a → ∀ N,N = endN (ux a) n → S.code y ⟨tput (apL (kept tm keep) (ut a)) (unkT tm),[],.no,rd,appT (ux a) n (tput (uh a) h),N,b,W⟩ K):S.code (.seq x y) ⟨tm,df,pm,rd,h,n,b,W⟩ K :=by
 subst hS
 intro he
 obtain ⟨e,s1,k1,k2,k3⟩ :=h1 he
 by_cases hn:e = .normal
 ·subst hn
  obtain ⟨a,hIa,hah⟩ :=k1
  have he:HEnd h n :=he
  obtain ⟨e2,s2,q1,q2,q3⟩ :=h2 a hIa _ rfl (qdl (tm :=tm) (rd :=rd) (b :=b) (W :=W) (keep :=keep) (ut :=ut a) (uh :=uh a) (ux :=ux a) he)
  refine ⟨e2,s2,q1,⟨q2.he,q2.b,?_⟩,fun B H hH => ?_⟩
  ·have k:Kept b h W s1.h s1.wr :=k2.kept
   rw [hah.wr] at k
   have k':Kept b (qby tm rd h n b W keep (ut a) (uh a) (ux a)).h W s2.h s2.wr :=q2.kept
   have k0:Kept b h W (qby tm rd h n b W keep (ut a) (uh a) (ux a)).h W :=⟨fun x hx => hx,fun x hx hn => (hah.same x (by omega)).trans (k.same x hx hn)⟩
   exact k0.trans k'
  ·obtain ⟨H1,p1,p2⟩ :=k3 B H hH
   obtain ⟨H2,p3,p4⟩ :=q3 B ⟨n + (ux a).length,n + (ux a).length,fun i => if i < n + (ux a).length then hv s1.h i else .hole⟩ (hah.obj he).symm
   refine ⟨H2,p3,Sem.seq (σ1 :=(qby tm rd h n b W keep (ut a) (uh a) (ux a)).st ⟨n + (ux a).length,n + (ux a).length,fun i => if i < n + (ux a).length then hv s1.h i else .hole⟩) ?_ p4⟩
   refine SemT.postW (.inl rfl) p2 (m :=n + (ux a).length) ?_ (fun i hi => by show OBd _ (H1.o i);rw [p1];exact hah.bd i hi) hah.tms hah.df rfl rfl hah.rd.symm fun i hi => ?_
   ·show AH.mk _ _ _ = AH.mk _ _ (fun i => if i < n + (ux a).length then H1.o i else .hole)
    rw [p1]
   ·apply Nat.lt_of_not_le
    intro hle
    have hi:H.o i ≠ .hole :=hi
    rw [hH] at hi
    exact hi (he.hole (by show n ≤ i;omega))
 ·refine ⟨e,s1,?_,k2,fun B H hH => ?_⟩
  ·cases e <;> first
    |exact absurd rfl hn
    |exact k1
  ·obtain ⟨H1,p1,p2⟩ :=k3 B H hH
   exact ⟨H1,p1,Sem.seq_exit p2 hn⟩
end
end Go.Abs
/-! Parts of code that are not yet carried out: blocks, and loops. -/
namespace Go.Abs
open Go
noncomputable section
section
variable {D:List ADf} {tm:Tr AV} {rd:Bool} {h:Tr AObj} {n b:Nat} {W:List Nat} {s':AS} {keep:List Nat} {ut:List (Nat × AV)} {uh:List (Nat × AObj)} {ux:List AObj} {rs:List Nat}
end
end
end Go.Abs

/-! Walks through maps: any entry may come next. -/
namespace Go.Abs
open Go
noncomputable section
theorem qjq (P:Program) (w:World) {n:Nat} (hn:0 < n):∃ i w',(choose (.mapNext n)).run P w = .ok i w' ∧ i < n ∧ (w' = w ∨ w' = w.drew) :=by
 rw [run_choose_drew]
 by_cases h:(Question.mapNext n).forced = true
 ·rw [if_pos h];exact ⟨0,w,rfl,hn,.inl rfl⟩
 ·rw [if_neg h];exact ⟨_,w.drew,rfl,Nat.mod_lt _ hn,.inr rfl⟩
theorem qx0 {P : Program} {w : World} {r m since last ck : Nat} {t : TypeId} {es : Array MapEntry} {seen : List Nat} (hb : Born es ck) (hs : ck ≤ since) (hl : seen = [] ∨ 0 < last ∨ ck = 0)
    (h1:w.heap[r]? = some (.mapIter (some m) since seen.reverse.toArray last)) (h2:w.heap[m]? = some (.map es ck)) :
    ∃ w',(w' = w ∨ w' = w.drew) ∧
      (((∀ j,j < ck → j ∈ seen) ∧ (Instr.next (.pointer (some ⟨r,0,none⟩)) false t).run P w = .ok (.tuple #[.bool false]) w') ∨
      ∃ j e,j ∉ seen ∧ es[j]? = some e ∧ (Instr.next (.pointer (some ⟨r,0,none⟩)) false t).run P w =
        .ok (.tuple #[.bool true,e.key,e.val]) { w' with heap :=w'.heap.setIfInBounds r (.mapIter (some m) since (j :: seen).reverse.toArray ck) }) :=by
  have hgone:(!seen.reverse.toArray.isEmpty && !es.isEmpty && es.all (·.born ≥ last)) = false :=by
    rcases hl with hl | hl | hl
    rotate_left 2
    · have:es.size = 0 :=by rw [← hb.1];exact hl
      simp [Array.isEmpty,this]
    · subst hl;simp
    · cases hes:es[0]? with
      | none => have : es.size = 0 := by simpa using hes
                simp [Array.isEmpty,this]
      | some e =>
        have h0 :=hb.2 0 e hes
        have:es.all (·.born ≥ last) = false :=by
          rw [Array.all_eq_false]
          obtain ⟨hlt,he⟩ :=Array.getElem?_eq_some_iff.1 hes
          exact ⟨0,hlt,by rw [he,h0];simp;omega⟩
        rw [this,Bool.and_false]
  obtain ⟨left,hleft⟩ : ∃ left,left = es.filter fun e => !seen.reverse.toArray.contains e.born :=⟨_,rfl⟩
  have hmem:∀ e,e ∈ left → ∃ j,j ∉ seen ∧ es[j]? = some e ∧ e.born = j ∧ j < ck :=fun e he => by
    rw [hleft] at he
    obtain ⟨h3,h4⟩ :=Array.mem_filter.1 he
    obtain ⟨j,hj,e1⟩ :=Array.mem_iff_getElem.1 h3
    have h5:es[j]? = some e :=by rw [← e1];exact Array.getElem?_eq_getElem hj
    have h6 :=hb.2 j e h5
    refine ⟨j,?_,h5,h6,by rw [hb.1];exact hj⟩
    rw [h6] at h4
    simpa using h4
  have hnew:left.filter (·.born ≥ since) = #[] :=by
    rw [Array.filter_eq_empty_iff]
    intro e he
    obtain ⟨j,_,_,h3,h4⟩ :=hmem e he
    simp only [ge_iff_le,decide_eq_true_eq]
    omega
  have hold:left.filter (·.born < since) = left :=by
    rw [Array.filter_eq_self]
    intro e he
    obtain ⟨j,_,_,h3,h4⟩ :=hmem e he
    simp only [decide_eq_true_eq]
    omega
  have hrun : (Instr.next (.pointer (some ⟨r, 0, none⟩)) false t).run P w = ((choose (.mapNext ((if left.isEmpty then #[none] else #[]) ++ left.map some).size)).run P w).andThen fun i w' =>
      (match ((if left.isEmpty then #[none] else #[]) ++ left.map some)[i]? with
      | some (some e) => (do
        setObj r (.mapIter (some m) since (seen.reverse.toArray.push e.born) ck)
        pure (.tuple #[.bool true,e.key,e.val]):Go.Sem Value)
      | some none => pure (.tuple #[.bool false])
      | none => stuck "Next: no such candidate").run P w' :=by
    simp only [Instr.next,Sem.run_bind,getObj,Sem.run,h1,Result.andThen_ok,h2,hgone,Bool.false_eq_true,if_false,← hleft,hold,hnew,Array.append_empty]
    rfl
  rw [hrun]
  by_cases hemp:left = #[]
  · refine ⟨w,.inl rfl,.inl ⟨fun j hj => ?_,?_⟩⟩
    · apply Classical.byContradiction
      intro hns
      have hjs:j < es.size :=by rw [← hb.1];exact hj
      have h3:es[j] ∈ left :=by
        rw [hleft]
        exact Array.mem_filter.2 ⟨Array.getElem_mem hjs,by
          rw [hb.2 j _ (Array.getElem?_eq_getElem hjs)];simpa using hns⟩
      rw [hemp] at h3
      simp at h3
    · have hc:(choose (.mapNext 1)).run P w = .ok 0 w :=by rw [run_choose_drew];rfl
      subst hemp
      simp [hc,-run_choose,-run_choose_drew]
  · have hne:left.isEmpty = false :=by simpa using hemp
    have hsz:0 < (left.map some).size :=by
      rw [Array.size_map]
      exact Array.size_pos_iff.2 hemp
    obtain ⟨i,w',q1,q2,q3⟩ :=qjq P w hsz
    have hi:i < left.size :=by simpa using q2
    obtain ⟨j,k1,k2,k3,k4⟩ :=hmem left[i] (Array.getElem_mem hi)
    refine ⟨w',q3,.inr ⟨j,left[i],k1,k2,?_⟩⟩
    have hw:w'.heap = w.heap :=by rcases q3 with e | e <;> subst e <;> rfl
    have hg:(left.map some)[i]? = some (some left[i]) :=by simp [hi]
    have h1':w'.heap[r]? = some (Obj.mapIter (some m) since seen.reverse.toArray last) :=by rw [hw];exact h1
    simp only [hne,Bool.false_eq_true,if_false,Array.empty_append,q1,Result.andThen_ok,hg,k3,Sem.run_bind]
    simp [setObj,Sem.run,h1']
/-! ### All ways lead to one end -/
def cutH (s:AS):AH :=⟨s.n,s.n,hv s.h⟩
def SemB (P:Program) (its:List Item) (s0 s:AS) (e:AEx) (s':AS):Prop :=
 ∀ (B:Nat) (H0 H:AH),H0.o = hv s0.h → H.o = hv s.h → ∀ g0 w0 g fr cs w k,Out g0 B w0 H0 g w H → FrRel g B w (s.st H) fr cs → fr.mode = .run → fr.todo = its ++ k →
  (∀ l,s.pm ≠ .pan l) → (e = .ret → fr.roundOf = none) → ∀ k',tgt e k = some k' →
  ∃ g' fr' cs' w',FrRel g' B w' (s'.st (cutH s')) fr' cs' ∧ Out g0 B w0 H0 g' w' (cutH s') ∧ SameFr fr fr' ∧ cs' = cs ∧ ExOk g' w' (cutH s').L e fr' k' ∧ Steps P (lone fr cs w) (lone fr' cs' w')
theorem CsOk.eq {pm:APm} {cs cs':List Frame} (h:CsOk pm cs cs') (hp:∀ l,pm ≠ .pan l):cs' = cs :=by
 cases pm with
 |pan l => exact absurd rfl (hp l)
 | _ => exact h
def Less (s0 s s':AS):Prop :=
 ∀ (B:Nat) (H0 H:AH),H0.o = hv s0.h → H.o = hv s.h → ∀ g0 w0 g fr cs w,Out g0 B w0 H0 g w H → FrRel g B w (s.st H) fr cs → FrRel g B w (s'.st (cutH s')) fr cs ∧ Out g0 B w0 H0 g w (cutH s')
section
variable {P:Program} {its its1:List Item} {s0 s s1 s':AS} {e:AEx}
theorem SemB.enter (h:SemB P its s s e s') (hp:s.pm = .no) (hp':s'.pm = .no):SemR P its s e s' :=fun B H hH => by
 refine ⟨cutH s',rfl,fun g fr cs w k hr hm ht hro k' hk => ?_⟩
 obtain ⟨g',fr',cs',w',h1,h2,h3,h4,h5,h6⟩ :=h B H H hH hH g w g fr cs w k (Out.refl hr.h) hr hm ht (by rw [hp];simp) hro k' hk
 refine ⟨g',fr',cs',w',h1,h2,h3,?_,?_,h5,h6⟩
 ·show CsOk s.pm cs cs'
  rw [hp];exact h4
 ·intro _ l
  show s'.pm ≠ .pan l
  rw [hp'];simp
theorem SemB.run (h:SemR P its1 s .normal s1) (k:SemB P its s0 s1 e s'):SemB P (its1 ++ its) s0 s e s' :=by
 intro B H0 H hH0 hH g0 w0 g fr cs w kk ho hr hm ht hp hro k' hk
 obtain ⟨H1,q1,q2⟩ :=h B H hH
 obtain ⟨g1,fr1,cs1,w1,h1,h2,h3,h4,h5,h6,h7⟩ :=q2 g fr cs w (its ++ kk) hr hm (by rw [ht,List.append_assoc]) (fun e => by cases e) _ rfl
 have h4:cs1 = cs :=h4.eq hp
 obtain ⟨g2,fr2,cs2,w2,f1,f2,f3,f4,f5,f6⟩ :=k B H0 H1 hH0 q1 g0 w0 g1 fr1 cs1 w1 kk (ho.trans h2) h1 h6.1 h6.2 (h5 hp) (fun e => h3.round.trans (hro e)) k' hk
 exact ⟨g2,fr2,cs2,w2,f1,f2,h3.trans f3,f4.trans h4,f5,h7.trans f6⟩
theorem SemB.less (h:Less s0 s s1) (hp1:∀ l,s1.pm ≠ .pan l) (k:SemB P its s0 s1 e s'):SemB P its s0 s e s' :=by
 intro B H0 H hH0 hH g0 w0 g fr cs w kk ho hr hm ht hp hro k' hk
 obtain ⟨h1,h2⟩ :=h B H0 H hH0 hH g0 w0 g fr cs w ho hr
 exact k B H0 (cutH s1) hH0 rfl g0 w0 g fr cs w kk h2 h1 hm ht hp1 hro k' hk
theorem SemB.out {c c':Code} {id:Nat} (h:SemR P [.code c] s (.exit id) s1) (hl:Less s0 s1 s'):SemB P [.code c,.inLoop c'] s0 s (.exit id) s' :=by
 intro B H0 H hH0 hH g0 w0 g fr cs w kk ho hr hm ht hp hro k' hk
 obtain ⟨H1,q1,q2⟩ :=h B H hH
 have q3:SemT P B ([.code c] ++ [.inLoop c']) (s.st H) (.exit id) (s1.st H1) :=SemT.pass q2 (qfu c' (by simp))
 obtain ⟨g1,fr1,cs1,w1,h1,h2,h3,h4,_,h6,h7⟩ :=q3 g fr cs w kk hr hm ht hro k' hk
 have h4:cs1 = cs :=h4.eq hp
 obtain ⟨f1,f2⟩ :=hl B H0 H1 hH0 q1 g0 w0 g1 fr1 cs1 w1 (ho.trans h2) h1
 exact ⟨g1,fr1,cs1,w1,f1,f2,h3,h4,h6,h7⟩
theorem SemB.round {c:Code} (k:SemB P [.code c,.inLoop c] s0 s e s'):SemB P [.inLoop c] s0 s e s' :=by
 intro B H0 H hH0 hH g0 w0 g fr cs w kk ho hr hm ht hp hro k' hk
 have hst:Steps P (lone fr cs w) (lone { fr with todo :=[.code c,.inLoop c] ++ kk } cs w) :=qa5 (by
  simp only [List.cons_append,List.nil_append] at ht
  simp [stepG,stepG.exec,hm,ht])
 obtain ⟨g2,fr2,cs2,w2,f1,f2,f3,f4,f5,f6⟩ :=k B H0 H hH0 hH g0 w0 g { fr with todo :=[.code c,.inLoop c] ++ kk } cs w kk ho (hr.todo _) hm rfl hp hro k' hk
 exact ⟨g2,fr2,cs2,w2,f1,f2,⟨f3.fn,f3.kind,f3.round⟩,f4,f5,hst.trans f6⟩
theorem SemB.seq {c1 c2:Code} (k:SemB P (.code c1 :: .code c2 :: its) s0 s e s'):SemB P (.code (.seq c1 c2) :: its) s0 s e s' :=by
 intro B H0 H hH0 hH g0 w0 g fr cs w kk ho hr hm ht hp hro k' hk
 have hst:Steps P (lone fr cs w) (lone { fr with todo :=.code c1 :: .code c2 :: (its ++ kk) } cs w) :=qa5 (by
  simp only [List.cons_append] at ht
  simp [stepG,stepG.exec,hm,ht])
 obtain ⟨g2,fr2,cs2,w2,f1,f2,f3,f4,f5,f6⟩ :=k B H0 H hH0 hH g0 w0 g { fr with todo :=.code c1 :: .code c2 :: (its ++ kk) } cs w kk ho (hr.todo _) hm rfl hp hro k' hk
 exact ⟨g2,fr2,cs2,w2,f1,f2,⟨f3.fn,f3.kind,f3.round⟩,f4,f5,hst.trans f6⟩
theorem SemB.region {id:Nat} {ops:Array Oper} (k:SemB P (.inRegion ops (List.range ops.size) :: its) s0 s e s'):SemB P (.code (.region id ops false) :: its) s0 s e s' :=by
 intro B H0 H hH0 hH g0 w0 g fr cs w kk ho hr hm ht hp hro k' hk
 have hst:Steps P (lone fr cs w) (lone { fr with todo :=.inRegion ops (List.range ops.size) :: (its ++ kk) } cs w) :=qa5 (by
  simp only [List.cons_append] at ht
  simp [stepG,stepG.exec,hm,ht])
 obtain ⟨g2,fr2,cs2,w2,f1,f2,f3,f4,f5,f6⟩ :=k B H0 H hH0 hH g0 w0 g { fr with todo :=.inRegion ops (List.range ops.size) :: (its ++ kk) } cs w kk ho (hr.todo _) hm rfl hp hro k' hk
 exact ⟨g2,fr2,cs2,w2,f1,f2,⟨f3.fn,f3.kind,f3.round⟩,f4,f5,hst.trans f6⟩
theorem MRel.ex {g:Gh} {w:World}:∀ {es:List (AV × AV)} {ces:List MapEntry} {j:Nat} {e:MapEntry},MRel g w es ces → ces[j]? = some e → ∃ k v,es[j]? = some (k,v) ∧ VRel g w k e.key ∧ VRel g w v e.val
 | [],ces,j,e,h,hj => by simp only [MRel] at h;subst h;simp at hj
 |(k,v) :: es,ces,0,e,h,hj => by
  obtain ⟨e',es',e1,h1,h2,h3⟩ :=h
  subst e1
  simp at hj
  subst hj
  exact ⟨k,v,by simp,h1,h2⟩
 |(k,v) :: es,ces,j + 1,e,h,hj => by
  obtain ⟨e',es',e1,h1,h2,h3⟩ :=h
  subst e1
  obtain ⟨k',v',q1,q2,q3⟩ :=MRel.ex h3 (by simpa using hj)
  exact ⟨k',v',by simpa using q1,q2,q3⟩
theorem SemB.next {ops:Array Oper} {i:Nat} {rest:List Nat} {o:Oper} {it:Operand} {q m since last:Nat} {seen:List Nat} {es:List (AV × AV)} (ho:ops[i]? = some o) (hop:o.op = .next it false)
  (hg:qbe ops s.tm o = some true) (hit:aev s.tm it = .ptr q 0) (hq:hv s.h q = .miter m since seen last) (hmo:hv s.h m = .mapo es) (hs:es.length ≤ since) (hl:0 < last ∨ es = [])
  (step:∀ j k v,es[j]? = some (k,v) → j ∉ seen → ∃ tm' h',SetD s.tm o.dst (.tup [.bool true,k,v]) tm' ∧ hv h' = upd (hv s.h) q (.miter m since (j :: seen) es.length) ∧
   SemB P (.inRegion ops rest :: its) s0 { s with tm :=tm',h :=h' } e s')
  (stop:(∀ j,j < es.length → j ∈ seen) → ∃ tm',SetD s.tm o.dst (.tup [.bool false]) tm' ∧ SemB P (.inRegion ops rest :: its) s0 { s with tm :=tm' } e s') :
  SemB P (.inRegion ops (i :: rest) :: its) s0 s e s' :=by
 intro B H0 H hH0 hH g0 w0 g fr cs w kk ho0 hr hm ht hp hro k' hk
 have ht':fr.todo = .inRegion ops (i :: rest) :: (its ++ kk) :=ht
 have hLq:H.L q :=by unfold AH.L;rw [hH,hq];simp
 have hLm:H.L m :=by unfold AH.L;rw [hH,hmo];simp
 have rq :=hr.h.rel q
 have e1:(s.st H).H.o q = .miter m since seen last :=by show H.o q = _;rw [hH,hq]
 rw [e1] at rq
 obtain ⟨sn0,l0,rq0,rq1,rq2⟩ :=rq
 have rm :=hr.h.rel m
 have e2:(s.st H).H.o m = .mapo es :=by show H.o m = _;rw [hH,hmo]
 rw [e2] at rm
 obtain ⟨ces,ck,rm1,rm2,rm3,rm4⟩ :=rm
 have hck:ck = es.length :=by rw [rm4.1,← rm3.length,Array.length_toList]
 have hev:fr.eval it = .pointer (some ⟨g.ob q,0,none⟩) :=by
  have h :=hr.tm.ev (a :={ tmps :=fr.tmps,defers :=fr.defers }) it
  have hit':aev (s.st H).tm it = .ptr q 0 :=hit
  rw [hit'] at h
  simp only [VRel] at h
  cases it <;> exact h
 have hst :=qbz (P :=P) (cs :=cs) (w :=w) hm ht' ho (qb5 hr.tm hg) (.inr (by intro c hc;rw [hop] at hc;cases hc))
 have hsn:es = [] ∨ sn0 = seen :=by
  rcases hl with hl | hl
  ·exact .inr (rq0 (by omega)).1
  ·exact .inl hl
 have hlz:sn0 = [] ∨ 0 < l0 ∨ ck = 0 :=by
  rcases hl with hl | hl
  ·have :=(rq0 (by omega)).2
   exact .inr (.inl (by omega))
  ·exact .inr (.inr (by rw [hck,hl];rfl))
 obtain ⟨w1,hw1,hcase⟩ :=qx0 (P :=P) (t :=o.type) rm4 (by omega:ck ≤ since) hlz rq1 rm1
 have hout1:Out g B w H g w1 H :=by
  rcases hw1 with e | e
  ·subst e;exact Out.refl hr.h
  ·subst e;exact Out.drew hr.h
 rcases hcase with ⟨hall,hrun⟩ | ⟨j,en,hjn,hje,hrun⟩
 ·obtain ⟨tm',k1,k2⟩ :=stop fun j hj => by
   rcases hsn with e | e
   ·rw [e] at hj;exact absurd hj (Nat.not_lt_zero _)
   ·rw [← e];exact hall j (by omega)
  have hx:(execOp fr.eval o).run P w = .ok (.value (.tuple #[.bool false])) w1 :=by
   unfold execOp
   simp only [hop,hev,Sem.run_bind,hrun,Result.andThen_ok,Sem.run_pure]
  have hr1 :=hr.out hout1
  have hv:VRel g w1 (.tup [.bool false]) (.tuple #[.bool false]) :=by
   simp only [VRel];exact ⟨_,rfl,by simp [VRels,VRel]⟩
  have hfin :=hr1.finish (o :=o) ht' ho hv ⟨trivial,trivial⟩ k1
  obtain ⟨g2,fr2,cs2,w2,f1,f2,f3,f4,f5,f6⟩ :=k2 B H0 H hH0 hH g0 w0 g (fr.finish (.tuple #[.bool false])) cs w1 kk (ho0.trans hout1) hfin (by rw [qa1 ht' ho];exact hm) (by rw [qa1 ht' ho];rfl)
   hp (by rw [qa1 ht' ho];exact hro) k' hk
  refine ⟨g2,fr2,cs2,w2,f1,f2,?_,f4,f5,(qa5 ?_).trans f6⟩
  ·rw [qa1 ht' ho] at f3;exact ⟨f3.fn,f3.kind,f3.round⟩
  ·rw [hst];simp [stepG.apply,hx]
 ·obtain ⟨k,v,k1,k2,k3⟩ :=rm3.ex (by simpa using hje)
  have hsn:sn0 = seen :=by
   rcases hsn with e | e
   ·rw [e] at k1;simp at k1
   ·exact e
  have hsn':seen = sn0 :=hsn.symm
  subst hsn'
  obtain ⟨tm',h',n1,n2,n3⟩ :=step j k v k1 hjn
  have hlm :=hr.h.live m
  rw [e2] at hlm
  obtain ⟨l1,l2⟩ :=qcm.at _ _ _ _ hlm k1
  generalize hw2:({ w1 with heap :=w1.heap.setIfInBounds (g.ob q) (.mapIter (some (g.ob m)) since (j :: seen).reverse.toArray ck) }:World) = w2 at hrun
  have hx:(execOp fr.eval o).run P w = .ok (.value (.tuple #[.bool true,en.key,en.val])) w2 :=by
   unfold execOp
   simp only [hop,hev,Sem.run_bind,hrun,Result.andThen_ok,Sem.run_pure]
  have hr1 :=hr.out hout1
  have hlt:g.ob q < w1.heap.size :=by
   have :=(hr1.h.ge q (by show H.o q ≠ _;exact hLq)).2
   have e3:({ s.st H with H :=H }:St).H.o q = .miter m since seen last :=e1
   rw [e3] at this
   exact this
  have hkq :=hr.h.kp q
  rw [e1] at hkq
  have hout2:Out g B w1 H g w2 (H.put q (.miter m since (j :: seen) ck) 0) :=by
   subst hw2
   refine HRel.setOb (H :=H) hr1.h hLq (by rw [show H.o q = _ from e1];rfl) rq2 (by simp) rfl 0 (by simp) (fun k hk => ?_) rfl rfl rfl ?_ ?_ ?_
   ·show (w1.heap.setIfInBounds (g.ob q) _)[k]? = _
    rw [Array.getElem?_setIfInBounds_ne (by omega)]
   ·intro _
    refine ⟨j :: seen,ck,fun _ => ⟨rfl,rfl⟩,?_,rq2⟩
    show (w1.heap.setIfInBounds (g.ob q) _)[g.ob q]? = _
    rw [Array.getElem?_setIfInBounds_self_of_lt hlt]
   ·exact AH.put_L H q 0 (by simp) hLm
   ·have :=AH.put_keep H q (.miter m since (j :: seen) ck) 0
    have hkq:m < max (q + 1) H.keep :=hkq
    show m < max (q + 1) _
    omega
  have hout :=hout1.trans hout2
  have hr2 :=hr.out hout
  have hvr:VRel g w2 (.tup [.bool true,k,v]) (.tuple #[.bool true,en.key,en.val]) :=by
   simp only [VRel]
   exact ⟨_,rfl,by simp only [VRels];exact ⟨_,_,rfl,rfl,_,_,rfl,k2.ext hout.ext _ _ l1,_,_,rfl,k3.ext hout.ext _ _ l2,rfl⟩⟩
  have hlv:Live (H.put q (.miter m since (j :: seen) ck) 0).L (.tup [.bool true,k,v]) :=⟨trivial,l1.mono hout.L,l2.mono hout.L,trivial⟩
  have hfin :=hr2.finish (o :=o) ht' ho hvr hlv n1
  have hH2:(H.put q (.miter m since (j :: seen) ck) 0).o = hv h' :=by
   rw [n2,← hH,← hck];rfl
  obtain ⟨g2,fr2,cs2,w3,f1,f2,f3,f4,f5,f6⟩ :=n3 B H0 _ hH0 hH2 g0 w0 g (fr.finish (.tuple #[.bool true,en.key,en.val])) cs w2 kk (ho0.trans hout) hfin (by rw [qa1 ht' ho];exact hm) (by rw [qa1 ht' ho];rfl)
   hp (by rw [qa1 ht' ho];exact hro) k' hk
  refine ⟨g2,fr2,cs2,w3,f1,f2,?_,f4,f5,(qa5 ?_).trans f6⟩
  ·rw [qa1 ht' ho] at f3;exact ⟨f3.fn,f3.kind,f3.round⟩
  ·rw [hst];simp [stepG.apply,hx]
end
section
variable {tm:Tr AV} {rd:Bool} {h:Tr AObj} {n b:Nat} {W:List Nat} {s0 s1:AS} {keep:List Nat} {ut:List (Nat × AV)} {uh:List (Nat × AObj)}
theorem Less.of (ha:AtG tm rd h n b W keep ut uh [] s1) (he:HEnd h n) (hl:∀ i,n ≤ i → hv s0.h i = .hole):Less s0 s1 (qby tm rd h n b W keep ut uh []) :=by
 intro B H0 H hH0 hH g0 w0 g fr cs w ho hr
 have hob :=ha.obj he
 have e0:n + ([]:List AObj).length = n :=rfl
 rw [e0] at hob
 have hc:cutH (qby tm rd h n b W keep ut uh []) = ⟨n,n,fun i => if i < n then H.o i else .hole⟩ :=by
  show AH.mk n n _ = _
  rw [hob,hH]
 refine ⟨?_,?_⟩
 ·exact hr.cutW (m :=n) hc (fun i hi => by show OBd n (H.o i);rw [hH];exact ha.bd i hi) ha.tms ha.df rfl rfl ha.rd.symm
 ·rw [hc]
  refine ho.cutAt (fun i hi => by rw [hH];exact ha.bd i hi) fun i hi => ?_
  apply Nat.lt_of_not_le
  intro hle
  have hi:H0.o i ≠ .hole :=hi
  rw [hH0] at hi
  exact hi (hl i hle)
theorem Less.ofY (ha:AtY [] tm rd h n b W keep ut uh [] s1) (he:HEnd h n) (hl:∀ i,n ≤ i → hv s0.h i = .hole):Less s0 s1 (qby tm rd h n b W keep ut uh []) :=by
 intro B H0 H hH0 hH g0 w0 g fr cs w ho hr
 have hob :=AtY.obj (D :=[]) (tm :=tm) (rd :=rd) (b :=b) (W :=W) (keep :=keep) (ut :=ut) (uh :=uh) (ux :=[]) he
 have e0:n + ([]:List AObj).length = n :=rfl
 rw [e0] at hob
 have hc:cutH (qby tm rd h n b W keep ut uh []) = ⟨n,n,fun i => if i < n then hv (qby tm rd h n b W keep ut uh []).h i else .hole⟩ :=by
  show AH.mk n n _ = _
  exact congrArg (AH.mk n n) hob
 have hwk:∀ i,i < n → OWk (H.o i) (hv (qby tm rd h n b W keep ut uh []).h i) :=fun i hi => by rw [hH];exact ha.wk i hi
 refine ⟨?_,?_⟩
 ·exact FrRel.cutY (D :=[]) hr (m :=n) hc hwk ha.bd ha.tms trivial ha.df rfl rfl ha.rd.symm
 ·rw [hc]
  refine ho.cutO hwk ha.bd fun i hi => ?_
  apply Nat.lt_of_not_le
  intro hle
  have hi:H0.o i ≠ .hole :=hi
  rw [hH0] at hi
  exact hi (hl i hle)
end
theorem qpt {E:Env} (hE:E.Ok) {S:Sub} (hS:S = qbg E.P) {A:Type} {rid:Nat} {ops:Array Oper} {o:Oper} {os:List Oper} {c2:Code} {it:Operand} {f:AS → KE → Prop} {tm:Tr AV} {df:List ADf} {pm:APm} {rd:Bool} {h:Tr AObj} {n b:Nat} {W:List Nat} {K:KE}
  (hops:ops.toList = o :: os) (hop:o.op = .next it false) (hgd:o.guard = none)
  (q m since eid:Nat) (es:List (AV × AV)) (hs:es.length ≤ since)
  (keep:List Nat) (ut:A → List (Nat × AV)) (uh:A → List (Nat × AObj)) (seen:A → List Nat) (last:A → Nat) (I:A → Prop) (mu:A → Nat) (a0:A) (utE:List (Nat × AV)) (uhE:List (Nat × AObj)) (_hbn:b ≤ n)
  (hwr:∀ x,x ∈ qfc uhE → b ≤ x ∨ x ∈ W)
  (h0:AtG tm rd h n b W keep (ut a0) (uh a0) [] ⟨tm,df,pm,rd,h,n,b,W⟩) (hI:I a0)
  (hq:∀ a,I a → aev (tput (apL (kept tm keep) (ut a)) (unkT tm)) it = .ptr q 0 ∧ (tput (uh a) h).get q = some (.miter m since (seen a) (last a)) ∧ (tput (uh a) h).get m = some (.mapo es) ∧ (0 < last a ∨ es = []))
  (step:∀ a,I a → ∀ j k v,es[j]? = some (k,v) → j ∉ seen a → ∀ N,N = n → qcd (tput (apL (kept tm keep) (ut a)) (unkT tm)) o.dst (.tup [.bool true,k,v]) fun tm' =>
   (tput (uh a) h).setK q (.miter m since (j :: seen a) es.length) fun h' => qls os E S ops ⟨tm',[],.no,rd,h',N,b,W⟩ fun e1 s1 => @AEx.rec (fun _ => Prop)
    (exC c2 E S s1 fun e2 s2 => @AEx.rec (fun _ => Prop) (∃ a',I a' ∧ mu a' < mu a ∧ AtG tm rd h n b W keep (ut a') (uh a') [] s2) (fun id => id = eid ∧ AtY [] tm rd h n b W keep utE uhE [] s2) False (fun _ => False) e2)
    (fun _ => False) False (fun _ => False) e1)
  (stop:∀ a,I a → (∀ j,j < es.length → j ∈ seen a) → ∀ N,N = n → qcd (tput (apL (kept tm keep) (ut a)) (unkT tm)) o.dst (.tup [.bool false]) fun tm' =>
   qls os E S ops ⟨tm',[],.no,rd,tput (uh a) h,N,b,W⟩ fun e1 s1 => @AEx.rec (fun _ => Prop)
    (exC c2 E S s1 fun e2 s2 => @AEx.rec (fun _ => Prop) (∃ a',I a' ∧ mu a' < mu a ∧ AtG tm rd h n b W keep (ut a') (uh a') [] s2) (fun id => id = eid ∧ AtY [] tm rd h n b W keep utE uhE [] s2) False (fun _ => False) e2)
    (fun _ => False) False (fun _ => False) e1)
  (hk:∀ N,N = n → K (.exit eid) ⟨tput (apL (kept tm keep) utE) (unkT tm),[],.no,rd,tput uhE h,N,b,W⟩):S.loop (.seq (.region rid ops false) c2) f ⟨tm,df,pm,rd,h,n,b,W⟩ K :=by
 subst hS
 intro he
 simp only at he
 have hpm:pm = .no :=h0.pm
 let s0:AS :=⟨tm,df,pm,rd,h,n,b,W⟩
 let hd:A → AS :=fun a => qby tm rd h n b W keep (ut a) (uh a) []
 let sE:AS :=qby tm rd h n b W keep utE uhE []
 have hhole:∀ i,n ≤ i → hv s0.h i = .hole :=fun i hi => he.hole hi
 have hops0:ops[0]? = some o :=by rw [← Array.getElem?_toList,hops];rfl
 have hsz:ops.size = os.length + 1 :=by rw [← Array.length_toList,hops];rfl
 have hrange:List.range ops.size = 0 :: List.range' 1 os.length :=by
  rw [hsz,List.range_eq_range',List.range'_succ]
 have hos:∀ j o',os[j]? = some o' → ops[1 + j]? = some o' :=fun j o' hj => by
  rw [← Array.getElem?_toList,hops,Nat.add_comm];simpa using hj
 have hgu:∀ tm',qbe ops tm' o = some true :=fun tm' => by unfold qbe;rw [hgd]
 have main:∀ (k:Nat) (a:A),I a → mu a < k → SemB E.P [.code (.seq (.region rid ops false) c2),.inLoop (.seq (.region rid ops false) c2)] s0 (hd a) (.exit eid) sE :=by
  intro k
  induction k with
  |zero => intro a _ h;omega
  |succ k ih =>
   intro a hIa hm
   obtain ⟨q1,q2,q3,q4⟩ :=hq a hIa
   have hea:HEnd (hd a).h (hd a).n :=qdl he
   -- what a round comes to, from behind the next entry on
   have fin:∀ (s:AS),HEnd s.h s.n → qls os E (qbg E.P) ops s (fun e1 s1 => @AEx.rec (fun _ => Prop)
     (exC c2 E (qbg E.P) s1 fun e2 s2 => @AEx.rec (fun _ => Prop) (∃ a',I a' ∧ mu a' < mu a ∧ AtG tm rd h n b W keep (ut a') (uh a') [] s2) (fun id => id = eid ∧ AtY [] tm rd h n b W keep utE uhE [] s2) False (fun _ => False) e2)
     (fun _ => False) False (fun _ => False) e1) → SemB E.P [.inRegion ops (List.range' 1 os.length),.code c2,.inLoop (.seq (.region rid ops false) c2)] s0 s (.exit eid) sE :=by
    intro s hse hx
    obtain ⟨e1,s1,h1,h2,h3⟩ :=qks hE (qbk E.P) os 1 s _ hos hx hse
    cases e1 with
    |normal =>
     refine SemB.run (its1 :=[_]) h3 ?_
     obtain ⟨e2,s2,h4,h5,h6⟩ :=qf6 hE (qbk E.P) c2 s1 _ h1 h2.he
     cases e2 with
     |normal =>
      obtain ⟨a',hIa',hlt,hat⟩ :=h4
      exact SemB.run (its1 :=[_]) h6 (SemB.round (SemB.less (Less.of hat he hhole) (fun _ e => by cases e) (ih a' hIa' (by omega))))
     |exit id =>
      obtain ⟨rfl,hat⟩ :=h4
      exact SemB.out h6 (Less.ofY hat he hhole)
     |ret => exact False.elim h4
     |panic l => exact False.elim h4
    |exit id => exact False.elim h1
    |ret => exact False.elim h1
    |panic l => exact False.elim h1
   refine SemB.seq (SemB.region ?_)
   rw [hrange]
   refine SemB.next (s :=hd a) hops0 hop (hgu _) q1 (by show hv (tput (uh a) h) q = _;unfold hv;rw [q2]) (by show hv (tput (uh a) h) m = _;unfold hv;rw [q3]) hs q4 (fun j kk v hj hjn => ?_) fun hall => ?_
   ·obtain ⟨tm',k1,k2⟩ :=qbl (step a hIa j kk v hj hjn _ rfl)
    obtain ⟨h',k3,⟨y,hy⟩,k4⟩ :=Tr.setK_spec _ _ _ k1
    refine ⟨tm',h',k2,?_,fin _ (fun i hi => ?_) k3⟩
    ·funext i
     unfold upd
     by_cases e:i = q
     ·subst e;unfold hv;rw [k4,if_pos rfl,if_pos rfl]
     ·unfold hv;rw [k4,if_neg e,if_neg e];rfl
    ·show h'.get i = none
     rw [k4]
     have hi':n ≤ i :=hi
     have hnone:(tput (uh a) h).get i = none :=qdq he i hi'
     rw [if_neg]
     ·exact hnone
     ·intro e;subst e;rw [hnone] at hy;cases hy
   ·obtain ⟨tm',k1,k2⟩ :=qbl (stop a hIa hall _ rfl)
    exact ⟨tm',k2,fin _ hea k1⟩
 have hfin :=SemB.less (Less.of h0 he hhole) (fun _ e => by cases e) (main (mu a0 + 1) a0 hI (by omega))
 have hsem :=SemB.enter hfin hpm rfl
 refine ⟨.exit eid,sE,hk _ rfl,⟨qdl he,rfl,⟨fun x hx => hx,fun x hx hn => ?_⟩⟩,fun B H hH => ?_⟩
 ·show hv (tput uhE h) x = hv h x
  have hx':x < b :=hx
  have hnk:x ∉ qfc uhE :=fun hk => by
   rcases hwr x hk with h1 | h1
   ·omega
   ·exact hn h1
  have hx2:(tput uhE h).get x = h.get x :=by
   cases hg:(tput uhE h).get x with
   |none => exact ((qjc uhE h x).1 hg).symm
   |some y =>
    obtain ⟨_,h2⟩ :=qcg _ _ _ _ hg
    rcases h2 with h2 | ⟨_,h2⟩
    ·exact absurd (List.mem_map_of_mem (f :=(·.1)) h2) hnk
    ·exact h2.symm
  unfold hv
  rw [hx2]
 ·exact hsem B H hH
theorem qc3 {E:Env} (hE:E.Ok) {S:Sub} (hS:S = qbg E.P) {A:Type} {rid:Nat} {ops:Array Oper} {o:Oper} {os:List Oper} {c2:Code} {it:Operand} {f:AS → KE → Prop} {tm:Tr AV} {df:List ADf} {pm:APm} {rd:Bool} {h:Tr AObj} {n b:Nat} {W:List Nat} {K:KE}
  (hops:ops.toList = o :: os) (hop:o.op = .next it false) (hgd:o.guard = none)
  (q m since eid:Nat) (es:List (AV × AV)) (hs:es.length ≤ since)
  (keep:List Nat) (ut:A → List (Nat × AV)) (uh:A → List (Nat × AObj)) (seen:A → List Nat) (last:A → Nat) (I:A → Prop) (mu:A → Nat) (a0:A) (utE:List (Nat × AV)) (uhE:List (Nat × AObj)) (_hbn:b ≤ n)
  (hwr:∀ x,x ∈ qfc uhE → b ≤ x ∨ x ∈ W)
  (h0:AtG tm rd h n b W keep (ut a0) (uh a0) [] ⟨tm,df,pm,rd,h,n,b,W⟩) (hI:I a0)
  (hq:∀ a,I a → aev (tput (apL (kept tm keep) (ut a)) (unkT tm)) it = .ptr q 0 ∧ (tput (uh a) h).get q = some (.miter m since (seen a) (last a)) ∧ (tput (uh a) h).get m = some (.mapo es) ∧ 0 < last a)
  (step:∀ a,I a → ∀ j k v,es[j]? = some (k,v) → j ∉ seen a → ∀ N,N = n → qcd (tput (apL (kept tm keep) (ut a)) (unkT tm)) o.dst (.tup [.bool true,k,v]) fun tm' =>
   (tput (uh a) h).setK q (.miter m since (j :: seen a) es.length) fun h' => qls os E S ops ⟨tm',[],.no,rd,h',N,b,W⟩ fun e1 s1 => @AEx.rec (fun _ => Prop)
    (exC c2 E S s1 fun e2 s2 => @AEx.rec (fun _ => Prop) (∃ a',I a' ∧ mu a' < mu a ∧ AtG tm rd h n b W keep (ut a') (uh a') [] s2) (fun id => id = eid ∧ AtY [] tm rd h n b W keep utE uhE [] s2) False (fun _ => False) e2)
    (fun _ => False) False (fun _ => False) e1)
  (stop:∀ a,I a → (∀ j,j < es.length → j ∈ seen a) → ∀ N,N = n → qcd (tput (apL (kept tm keep) (ut a)) (unkT tm)) o.dst (.tup [.bool false]) fun tm' =>
   qls os E S ops ⟨tm',[],.no,rd,tput (uh a) h,N,b,W⟩ fun e1 s1 => @AEx.rec (fun _ => Prop)
    (exC c2 E S s1 fun e2 s2 => @AEx.rec (fun _ => Prop) (∃ a',I a' ∧ mu a' < mu a ∧ AtG tm rd h n b W keep (ut a') (uh a') [] s2) (fun id => id = eid ∧ AtY [] tm rd h n b W keep utE uhE [] s2) False (fun _ => False) e2)
    (fun _ => False) False (fun _ => False) e1)
  (hk:∀ N,N = n → K (.exit eid) ⟨tput (apL (kept tm keep) utE) (unkT tm),[],.no,rd,tput uhE h,N,b,W⟩):S.loop (.seq (.region rid ops false) c2) f ⟨tm,df,pm,rd,h,n,b,W⟩ K :=
 qpt hE hS hops hop hgd q m since eid es hs keep ut uh seen last I mu a0 utE uhE _hbn hwr h0 hI (fun a ha => ⟨(hq a ha).1,(hq a ha).2.1,(hq a ha).2.2.1,.inl (hq a ha).2.2.2⟩) step stop hk
end
end Go.Abs

namespace Go.Abs
open Go
noncomputable section
def ghOf (m:Nat → Nat) (w:World):Gh :=⟨fun _ => 0,fun b => if b < w.heap.size then m b else 0,fun _ => 0,fun _ => 0,fun _ => 0⟩
theorem HRel.old (m:Nat → Nat) (w:World):HRel (ghOf m w) w.heap.size w AH.nil where
 wf :=fun _ _ => rfl
 ge :=fun _ h => absurd rfl h
 inj :=fun _ _ h => absurd rfl h
 rel :=fun _ => trivial
 live :=fun _ => trivial
 kp :=fun _ => trivial
 imz :=fun _ hb => if_neg (Nat.not_lt.2 hb)
 hB :=Nat.le_refl _
theorem Pure.callsAt {P:Program} {f:FuncId} {args:List AV} {b:Bool} (h:Pure P f args (.bool b)) {w:World} {vs:Array Value} (m:Nat → Nat) (hv:VRels (ghOf m w) w args vs.toList) (hl:Lives noL args) :
  Calls P f vs w (fun e w' => e = .returned (.bool b) ∧ RowKit.Below w.heap.size w w') :=by
 intro cs
 obtain ⟨g',fr',w',h1,h2,h3,u,h4,h5,_⟩ :=h.2 w.heap.size AH.nil _ vs cs w (HRel.old m w) hv hl.ofNo
 simp only [VRel] at h5
 subst h5
 exact ⟨.returned (.bool b),w',fr',⟨rfl,h1.below⟩,h2,h3,h4⟩
theorem VRels.one {g:Gh} {w:World} {x:AV} {u:Value} {xs:List AV} {us:List Value} (h:VRel g w x u) (hs:VRels g w xs us):VRels g w (x :: xs) (u :: us) :=⟨u,us,rfl,h,hs⟩
theorem VRel.agg' {g:Gh} {w:World} {xs:List AV} {us:Array Value} (h:VRels g w xs us.toList):VRel g w (.agg xs) (.agg us) :=⟨us,rfl,h⟩
def frz1 (h:Tr AObj) (v:AV):Option AV :=
 match v with
 | .slc i off m _ => match off with
  | 0 => match hv h i with
   | .cells t n _ => match qfl t 0 n with
    |some xs => match norefs xs with
     |true => some (.lst xs m .no)
     |false => none
    |none => none
   | _ => none
  | _ => none
 |v => match noref (wk v) with
  |true => some (wk v)
  |false => none
def frzL (h:Tr AObj):List AV → Option (List AV)
 | [] => some []
 |v :: vs => match frz1 h v with
  |some u => match frzL h vs with
   |some us => some (u :: us)
   |none => none
  |none => none
def frzV (h:Tr AObj) (v:AV):Option AV :=
 match v with
 | .tup vs => match frzL h vs with
  |some us => some (.tup us)
  |none => none
 |v => frz1 h v
theorem qtb {h:Tr AObj} {v u:AV} (hf:frz1 h v = some u):FzV (hv h) v u ∧ Live noL u :=by
 have plain:∀ w:AV,(match noref (wk w) with | true => some (wk w) | false => none) = some u → FzV (hv h) w u ∧ Live noL u :=by
  intro w hw
  split at hw <;> cases hw
  rename_i hn
  exact ⟨FzV.ofWk (Wk.wk w) (FzV.no (qfy _ hn)),qfy _ hn⟩
 unfold frz1 at hf
 split at hf
 ·split at hf <;> try cases hf
  split at hf <;> try cases hf
  rename_i t n ty ho
  split at hf <;> try cases hf
  rename_i xs hl
  split at hf <;> cases hf
  rename_i hn
  obtain ⟨h1,h2⟩ :=qdt hl
  exact ⟨FzV.slcN ho h1 (fun j hj => by have :=h2 j hj;rwa [Nat.zero_add] at this) (qbw _ hn),qbw _ hn,fun _ e => by cases e⟩
 ·exact plain _ hf
theorem qta {h:Tr AObj}:∀ {vs us:List AV},frzL h vs = some us → FzVs (hv h) vs us ∧ Lives noL us
 | [],us,hf => by simp only [frzL,Option.some.injEq] at hf;subst hf;exact ⟨trivial,trivial⟩
 |v :: vs,us,hf => by
  unfold frzL at hf
  split at hf <;> try cases hf
  rename_i u hu
  split at hf <;> cases hf
  rename_i us' hus
  obtain ⟨h1,h2⟩ :=qtb hu
  obtain ⟨h3,h4⟩ :=qta hus
  exact ⟨⟨h1,h3⟩,h2,h4⟩
theorem qyd {h:Tr AObj} {v u:AV} (hf:frzV h v = some u):FzV (hv h) v u ∧ Live noL u :=by
 unfold frzV at hf
 split at hf
 ·split at hf <;> cases hf
  rename_i us hus
  obtain ⟨h1,h2⟩ :=qta hus
  exact ⟨FzV.tup h1,h2⟩
 ·exact qtb hf
def runF (E:Env) (fuel d:Nat) (f:FuncId) (args:List AV) (v:AV):Prop :=
 (sub E fuel d).fn f .normal args .no .nil 0 fun e _ h _ _ => match e with
  | .ret u => match frzV h u with
   |some u' => bif2 (eqA u' v) False True
   |none => False
  | .panic _ => False
theorem qxd {E:Env} (hE:E.Ok) {fuel d:Nat} {f:FuncId} {args:List AV} {v:AV} (h:runF E fuel d f args v) (ha:norefs args = true):Pure E.P f args v :=by
 obtain ⟨e,pm',h',n',_,h1,h2,_,h3⟩ :=(qn0 hE fuel d).fn f .normal args .no .nil 0 _ h qcr
 cases e with
 |panic l => exact h1.elim
 |ret u =>
  simp only at h1
  split at h1
  case h_2 => exact h1.elim
  rename_i u' hu
  cases he:eqA u' v with
  |false => rw [he] at h1;exact False.elim h1
  |true =>
   have e :=qwr _ _ he
   subst e
   obtain ⟨k1,k2⟩ :=qyd hu
   refine qjw (fun B => ?_) (qbw _ ha) k2
   obtain ⟨H',h4,h5⟩ :=h3 B AH.nil qc8.symm
   exact ⟨u,H',CSem.of_F h5,by rw [h4];exact k1⟩
def mkEnvM (P:Program) (X:FuncId → Option ExtK) (mu:Option Tmp → TypeId → Bool) (y:Bool) (pu:FuncId → Bool) (M:Memo) (K:Env → Prop):Prop :=
 putL P.types.toList 0 .nil fun T => putL P.funcs.toList 0 .nil fun F => K ⟨P,T,F,⟨X,eqvOf P T,mu⟩,y,pu,M,fun _ _ _ _ _ R => R⟩
theorem qsh {P:Program} {X:FuncId → Option ExtK} {mu:Option Tmp → TypeId → Bool} {y:Bool} {pu:FuncId → Bool} {M:Memo} {K:Env → Prop} (h:mkEnvM P X mu y pu M K) (hn:(P.funcs.toList.all fun fn => !(fn.name == "runtime.NumGoroutine")) = true) (hX:EOK P X) (hm:P.follows .mixedOrders = true) (hM:MOK P M) :
  ∃ E:Env,K E ∧ E.Ok ∧ E.P = P :=by
 obtain ⟨T,h1,h2⟩ :=putL_ok _ _ _ _ h
 obtain ⟨F,h3,h4⟩ :=putL_ok _ _ _ _ h1
 have hT:TOK P T :=by
  intro t i hi
  have hi:T.get t = some i :=hi
  rw [h2] at hi
  split at hi
  ·rename_i hlt
   have hlt':t < P.types.size :=by simpa using hlt.2
   have hi':P.types[t]? = some i :=by simpa using hi
   show P.toTables.info? t = some i
   unfold Tables.info?
   rw [if_pos hlt']
   exact hi'
  ·simp at hi
 refine ⟨⟨P,T,F,⟨X,eqvOf P T,mu⟩,y,pu,M,fun _ _ _ _ _ R => R⟩,h3,⟨hT,?_,⟨hX,eqvOf_ok hT⟩,hm,hM,fun _ _ _ _ _ _ h => .inr (.inr h)⟩,rfl⟩
 intro f fn hf
 have hf:F.get f = some fn :=hf
 rw [h4] at hf
 split at hf
 ·have hf':P.funcs.toList[f]? = some fn :=by simpa using hf
  refine ⟨by simpa using hf',?_⟩
  have :=List.all_eq_true.1 hn fn (List.mem_of_getElem? hf')
  simpa using this
 ·simp at hf
theorem pure_runF {P:Program} {X:FuncId → Option ExtK} {mu:Option Tmp → TypeId → Bool} {y:Bool} {pu:FuncId → Bool} {M:Memo} {fuel d:Nat} {f:FuncId} {args:List AV} {v:AV} (h:mkEnvM P X mu y pu M fun E => runF E fuel d f args v)
  (hn:(P.funcs.toList.all fun fn => !(fn.name == "runtime.NumGoroutine")) = true) (hX:EOK P X) (hm:P.follows .mixedOrders = true) (hM:MOK P M) (ha:norefs args = true):Pure P f args v :=by
 obtain ⟨E,h1,h2,rfl⟩ :=qsh h hn hX hm hM
 exact qxd h2 h1 ha
theorem CSem.same {P:Program} {B:Nat} {f:FuncId} {args:List AV} {H H2:AH} {e:AEnd} (h:CSem P B f args H e H2) (ho:H2.o = H.o):CSem P B f args H e H :=by
 intro g vs cs w hr hv hl
 obtain ⟨g',fr',w',h1,h2,h3,h4⟩ :=h g vs cs w hr hv hl
 have hL:H2.L = H.L :=by funext i;unfold AH.L;rw [ho]
 have rel :=h1.rel
 have ext :=h1.ext
 have own :=h1.own
 have frame :=h1.frame
 refine ⟨g',fr',w',⟨?_,ext,h1.below,fun _ hi => hi,frame,?_⟩,h2,h3,by rw [← hL];exact h4⟩
 ·exact { wf :=hr.wf,ge :=by rw [← ho];exact rel.ge,inj :=by rw [← ho];exact rel.inj,rel :=by rw [← ho];exact rel.rel,live :=by rw [← ho,← hL];exact rel.live,kp :=hr.kp,imz :=rel.imz,hB :=rel.hB }
 ·intro k hk
  have e:qek g' H2 k :=by
   obtain ⟨i,hi,ei⟩ :=hk
   exact ⟨i,by rw [ho];exact hi,by rw [ho];exact ei⟩
  exact own k e
theorem HFun.pureR {P:Program} {f:FuncId} {args:List AV} {o:Nat → AObj} {m:Nat} {v:AV} (hf:HFun P f args o m v o) {h:Tr AObj} (he:∀ i,i < m → hv h i = o i):ql0 P f args (List.range m) (hv h) v :=fun B H hH => by
 have hH2:∀ i,i < m → H.o i = o i :=fun i hi => (hH i (List.mem_range.2 hi)).trans (he i hi)
 refine (hf B H hH2).same ?_
 funext i
 show (if i < m then o i else H.o i) = H.o i
 split
 ·rename_i hi;exact (hH2 i hi).symm
 ·rfl
theorem qwl {y:Bool} {n:Nat} {K:Nat → Prop} (h:K n):fcN y n K :=by
 cases y with
 |true => exact h
 |false => cases n <;> exact h
theorem qia {v:AV} {K:AV → Prop} (h:K v):fcH0 v K :=by cases v <;> exact h
theorem qtk {α:Type} {f:α → (α → Prop) → Prop} (hf:∀ x K,K x → f x K):∀ (xs:List α) (K:List α → Prop),K xs → fcL0 f xs K
 | [],_,h => h
 |x :: xs,K,h => hf x (fun x => fcL0 f xs fun xs => K (x :: xs)) (qtk hf xs (fun xs => K (x :: xs)) h)
theorem qna {α:Type} {x:α}:∀ (t:Tr α) (i:Nat) (K:Tr α → Prop),(∀ j,(t.get j).isSome = true ↔ j < i) → (∀ t':Tr α,(∀ j,t'.get j = if j = i then some x else t.get j) → K t') → t.insK i x K
 | .nil,0,K,_,h => h (.node x .nil .nil) fun j => by
  cases j with
  |zero => rw [if_pos rfl];rfl
  |succ j => rw [Tr.get_single,if_neg (Nat.succ_ne_zero j),Tr.get_nil]
 | .nil,i + 1,K,hd,_ => absurd ((hd 0).2 (Nat.succ_pos i)) (by rw [Tr.get_nil];intro h;cases h)
 | .node v l r,0,K,hd,_ => absurd ((hd 0).1 rfl) (Nat.lt_irrefl 0)
 | .node v l r,i + 1,K,hd,h => by
  have hl:∀ j,l.get j = (Tr.node v l r).get (2 * j + 1) :=fun j => by
   rw [Tr.get_node_even _ _ _ (show 2 * j % 2 = 0 by omega),show 2 * j / 2 = j by omega]
  have hr:∀ j,r.get j = (Tr.node v l r).get (2 * j + 1 + 1) :=fun j => by
   rw [Tr.get_node_odd _ _ _ (show ¬ (2 * j + 1) % 2 = 0 by omega),show (2 * j + 1) / 2 = j by omega]
  by_cases hp:i % 2 = 0
  ·rw [Tr.insK_even hp]
   refine qna l (i / 2) _ (fun j => ?_) fun l' hl' => h _ fun j => ?_
   ·rw [hl,hd];omega
   ·cases j with
    |zero => rw [if_neg (by omega)];rfl
    |succ j =>
     by_cases hq:j % 2 = 0
     ·rw [Tr.get_node_even _ _ _ hq,Tr.get_node_even _ _ _ hq,hl']
      by_cases e:j = i
      ·rw [if_pos (by omega),if_pos (by omega)]
      ·rw [if_neg (by omega),if_neg (by omega)]
     ·rw [Tr.get_node_odd _ _ _ hq,Tr.get_node_odd _ _ _ hq,if_neg (by omega)]
  ·rw [Tr.insK_odd hp]
   refine qna r (i / 2) _ (fun j => ?_) fun r' hr' => h _ fun j => ?_
   ·rw [hr,hd];omega
   ·cases j with
    |zero => rw [if_neg (by omega)];rfl
    |succ j =>
     by_cases hq:j % 2 = 0
     ·rw [Tr.get_node_even _ _ _ hq,Tr.get_node_even _ _ _ hq,if_neg (by omega)]
     ·rw [Tr.get_node_odd _ _ _ hq,Tr.get_node_odd _ _ _ hq,hr']
      by_cases e:j = i
      ·rw [if_pos (by omega),if_pos (by omega)]
      ·rw [if_neg (by omega),if_neg (by omega)]
theorem qri {α:Type}:∀ (xs:List α) (i:Nat) (t:Tr α) (K:Tr α → Prop),(∀ j,(t.get j).isSome = true ↔ j < i) → (∀ t':Tr α,(∀ j,t'.get j = if i ≤ j ∧ j < i + xs.length then xs[j - i]? else t.get j) → K t') → putL xs i t K
 | [],i,t,K,_,h => h t fun j => by rw [if_neg (by simp only [List.length_nil];omega)]
 |x :: xs,i,t,K,hd,h => qna t i _ hd fun t1 h1 => qwl (qri xs (i + 1) t1 K (fun j => by
   rw [h1]
   by_cases e:j = i
   ·rw [if_pos e];exact ⟨fun _ => by omega,fun _ => rfl⟩
   ·rw [if_neg e,hd];omega) fun t' h' => h t' fun j => by
   rw [h',h1]
   by_cases e:j = i
   ·subst e
    rw [if_neg (by omega),if_pos rfl,if_pos (by simp only [List.length_cons];omega),Nat.sub_self];rfl
   ·rw [if_neg e]
    by_cases h5:i + 1 ≤ j ∧ j < i + 1 + xs.length
    ·rw [if_pos h5,if_pos (by simp only [List.length_cons];omega),show j - i = (j - (i + 1)) + 1 by omega];rfl
    ·rw [if_neg h5,if_neg (by simp only [List.length_cons];omega)])
theorem qhf {xs:List AV} {m:Nat} {Q:List AV → Tr AV → Nat → Prop} (hl:xs.length = m) (h:∀ t:Tr AV,(∀ j,t.get j = xs[j]?) → Q xs t m):fcL0 fcH0 xs fun cs => putL cs 0 .nil fun t => fcN false cs.length fun m => Q cs t m :=by
 subst hl
 refine qtk (fun _ _ h => qia h) xs _ (qri xs 0 .nil _ (fun j => by rw [Tr.get_nil];exact ⟨fun h => (nomatch h),fun h => absurd h (Nat.not_lt_zero _)⟩) fun t ht => qwl (h t fun j => ?_))
 rw [ht]
 by_cases e:j < xs.length
 ·rw [if_pos (by omega),Nat.sub_zero]
 ·rw [if_neg (by omega),Tr.get_nil,List.getElem?_eq_none (by omega)]
theorem qmk {m:Nat} {x:AV} {K:Tr AV → Prop} (hm:m + 1 < 2 ^ 64) (h:∀ t:Tr AV,(∀ j,t.get j = if j < m then some x else none) → K t):repY true x m K :=by
 unfold repY
 cases Nat.ble 32 m with
 |false =>
  obtain ⟨s,t,hk⟩ :=qib x 64 m hm
  obtain ⟨_,t',h1,_,h2⟩ :=Tr.copyK_spec 64 m (fun a b => a = s ∧ b = t) ((hk _).2 ⟨rfl,rfl⟩)
  obtain rfl :=h1.2
  exact (hk fun _ t => K t).2 (h _ h2)
 |true => exact fun t ht => h t ht
theorem qm3 {P:Prop} {Q:Nat → Prop} {n k:Nat} (e:n = k + 1) (h:Q k):@Nat.rec (fun _ => Prop) P (fun m _ => Q m) n :=by subst e;exact h
end
end Go.Abs
/-! Code cut between two parts, where lists that grew in the first part become cells that may be written to in the second one. -/
namespace Go.Abs
open Go
noncomputable section
def thG (g:Gh) (n:Nat) (rs:List Nat):Gh :={ g with ob :=fun i => if i < n then g.ob i else g.cb (rs.getD (i - n) 0) }
theorem qjd (g:Gh) (n:Nat) (rs:List Nat) (w:World):Ext (fun i => i < n) g w (thG g n rs) w :=
 ⟨fun _ hi => if_pos hi,fun _ _ => Nat.le_refl _,fun _ _ _ => ⟨rfl,rfl⟩,fun _ => Nat.le_refl _,fun _ _ _ => rfl⟩
inductive ThV (n:Nat) (rs:List Nat) (ux:List AObj) (o:Nat → AObj):AV → AV → Prop
 |wk {y a:AV} (h:WkV y a) (b:bd a ≤ n):ThV n rs ux o y a
 |ch {k j c d sz:Nat} {ty:TypeId} {xs:List AV} {t:Tr AV} (hk:0 < k) (hj:j < ux.length) (e:rs.getD j 0 = c) (e2:d = n + j) (ho:o c = .mrow xs k sz ty) (hx:ux.getD j .hole = .cells t (k * sz) ty):ThV n rs ux o (.lst [] k (.ch c)) (.slc d 0 k 0)
def ThE (n:Nat) (rs:List Nat) (ux:List AObj) (o:Nat → AObj) (es es':List (AV × AV)):Prop :=
 @List.rec (AV × AV) (fun _ => List (AV × AV) → Prop) (fun es' => @List.rec (AV × AV) (fun _ => Prop) True (fun _ _ _ => False) es')
  (fun p _ ih es' => @List.rec (AV × AV) (fun _ => Prop) False (fun q r _ => ((WkV p.1 q.1 ∧ bd q.1 ≤ n) ∧ ThV n rs ux o p.2 q.2) ∧ ih r) es') es es'
inductive OTh (n:Nat) (rs:List Nat) (ux:List AObj) (o:Nat → AObj):AObj → AObj → Prop
 |same (x:AObj) (b:BdO n x):OTh n rs ux o x x
 |mapo {es es':List (AV × AV)} (h:ThE n rs ux o es es'):OTh n rs ux o (.mapo es) (.mapo es')
inductive UTh (n:Nat):AObj → AObj → Prop
 |row {xs:List AV} {k sz:Nat} {ty:TypeId} {t:Tr AV} (h:TOf xs t) (b:bdl xs ≤ n):UTh n (.mrow xs k sz ty) (.cells t (k * sz) ty)
section
variable {n:Nat} {rs:List Nat} {ux:List AObj} {g:Gh} {B:Nat} {w:World} {H:AH} {o:Nat → AObj}
theorem UTh.rowI {xs:List AV} {k sz m:Nat} {ty:TypeId} {t:Tr AV} (h:TOf xs t) (b:bdl xs ≤ n) (hm:m = k * sz):UTh n (.mrow xs k sz ty) (.cells t m ty) :=by subst hm;exact .row h b
theorem ThV.chI {k j c d sz m:Nat} {ty:TypeId} {xs:List AV} {t:Tr AV} (hk:0 < k) (hj:j < ux.length) (e:rs.getD j 0 = c) (e2:d = n + j) (ho:o c = .mrow xs k sz ty) (hm:m = k * sz) (hx:ux.getD j .hole = .cells t m ty):ThV n rs ux o (.lst [] k (.ch c)) (.slc d 0 k 0) :=by
 subst hm;exact .ch hk hj e e2 ho hx
theorem OTh.hole {x y:AObj} (h:OTh n rs ux o x y):x = .hole ↔ y = .hole :=by cases h <;> first|exact Iff.rfl|exact ⟨fun e => (nomatch e),fun e => (nomatch e)⟩
theorem qy1 {x:AObj} {i:Nat} (hi:i < n):(thG g n rs).bk x i = g.bk x i :=by cases x <;> first|rfl|exact if_pos hi
theorem OTh.bk {x y:AObj} (h:OTh n rs ux o x y) {i:Nat} (hi:i < n):(thG g n rs).bk y i = g.bk x i :=by
 cases h with
 |same _ b => exact qy1 hi
 |mapo h => exact if_pos hi
theorem ThV.rel {y a:AV} {u:Value} (k:ThV n rs ux H.o y a) (hr:HRel g B w H) (hl:Live H.L y) (hv:VRel g w y u):VRel (thG g n rs) w a u :=by
 cases k with
 |wk h b => exact VRel.ext (qjd g n rs w) a u (Live.mono (fun _ k => k.2) a (Live.below a (h.lv _ hl) b)) (h.wk _ _ _ hv)
 | @ch k j c d sz ty xs t hk hj e e2 ho hx =>
  simp only [VRel] at hv ⊢
  obtain ⟨b,off,cap,h1,h2,_,_,h5⟩ :=hv
  have hrc :=hr.rel c
  rw [ho] at hrc
  obtain ⟨arr,q1,q2,q3,q4,q5,q6,q7⟩ :=hrc
  obtain ⟨_,h5⟩ :=h5
  obtain ⟨h6,h7,h8⟩ :=h5 q5.symm
  subst h6 h7 h8
  have e1:(thG g n rs).ob d = g.cb c :=by
   show (if d < n then _ else g.cb (rs.getD (d - n) 0)) = _
   rw [if_neg (by omega),show d - n = j by omega,e]
  rw [e1]
  exact ⟨_,h1,h2,fun h => by omega⟩
theorem ThV.live {y a:AV} (k:ThV n rs ux H.o y a) {o':Nat → AObj} (ho:∀ i,i < n → (H.o i = .hole ↔ o' i = .hole)) (hl:Live H.L y):Live (AH.mk (n + ux.length) (n + ux.length) (zo n ux o')).L a :=by
 cases k with
 |wk h b =>
  refine Live.mono (fun i hi => ?_) a (Live.below a (h.lv _ hl) b)
  show zo n ux o' i ≠ .hole
  unfold zo
  rw [if_pos hi.2]
  exact fun e => hi.1 ((ho i hi.2).2 e)
 | @ch k j c d sz ty xs t hk hj e e2 h1 hx =>
  show zo n ux o' d ≠ .hole
  unfold zo
  rw [if_neg (by omega),show d - n = j by omega,hx]
  exact fun e => nomatch e
theorem ThV.bdx {y a:AV} (k:ThV n rs ux o y a):bd a ≤ n + ux.length :=by
 cases k with
 |wk h b => omega
 | @ch k j c d sz ty xs t hk hj e e2 h1 hx => show d + 1 ≤ _;omega
theorem ThE.rel:∀ {es es':List (AV × AV)} {ces:List MapEntry},ThE n rs ux H.o es es' → HRel g B w H → qcm H.L es → MRel g w es ces → MRel (thG g n rs) w es' ces
 | [],[],_,_,_,_,h => h
 | [],_ :: _,_,k,_,_,_ => k.elim
 | _ :: _,[],_,k,_,_,_ => k.elim
 |(a,b) :: es,(a',b') :: es',ces,k,hr,hl,h => by
  obtain ⟨e,es2,e1,h1,h2,h3⟩ :=h
  exact ⟨e,es2,e1,ThV.rel (rs :=rs) (ux :=ux) (.wk k.1.1.1 k.1.1.2) hr hl.1 h1,k.1.2.rel hr hl.2.1 h2,ThE.rel k.2 hr hl.2.2 h3⟩
theorem ThE.live {o':Nat → AObj} (ho:∀ i,i < n → (H.o i = .hole ↔ o' i = .hole)):∀ {es es':List (AV × AV)},ThE n rs ux H.o es es' → qcm H.L es → qcm (AH.mk (n + ux.length) (n + ux.length) (zo n ux o')).L es'
 | [],[],_,_ => trivial
 | [],_ :: _,k,_ => k.elim
 | _ :: _,[],k,_ => k.elim
 |(_,_) :: _,(_,_) :: _,k,hl => ⟨ThV.live (rs :=rs) (.wk k.1.1.1 k.1.1.2) ho hl.1,k.1.2.live ho hl.2.1,ThE.live ho k.2 hl.2.2⟩
theorem ThE.bdx:∀ {es es':List (AV × AV)},ThE n rs ux o es es' → ∀ p,p ∈ es' → bd p.1 ≤ n + ux.length ∧ bd p.2 ≤ n + ux.length
 | [],[],_,_,hp => by cases hp
 | [],_ :: _,k,_,_ => k.elim
 | _ :: _,[],k,_,_ => k.elim
 |(a,b) :: es,(a',b') :: es',k,p,hp => by
  rcases List.mem_cons.1 hp with rfl | hp
  ·exact ⟨by have :=k.1.1.2;show bd a' ≤ _;have:bd a' ≤ n :=this;omega,k.1.2.bdx⟩
  ·exact ThE.bdx k.2 p hp
def srcI (n:Nat) (rs:List Nat) (i:Nat):Nat :=if i < n then i else rs.getD (i - n) 0
structure ThR (n:Nat) (rs:List Nat) (ux:List AObj) (s o:Nat → AObj):Prop where
 len:rs.length = ux.length
 nd:rs.Nodup
 ge:∀ j,j < rs.length → n ≤ rs.getD j 0
 old:∀ i,i < n → OTh n rs ux s (s i) (o i)
 new:∀ j,j < ux.length → UTh n (s (rs.getD j 0)) (ux.getD j .hole)
theorem HRel.th (h:HRel g B w H) (hz:ThR n rs ux H.o o):HRel (thG g n rs) B w ⟨n + ux.length,n + ux.length,zo n ux o⟩ :=by
 have out:∀ i,¬ i - n < ux.length → ux.getD (i - n) .hole = .hole :=fun i hi => by
  rw [List.getD_eq_getElem?_getD,List.getElem?_eq_none (by omega)];rfl
 have key:∀ i,zo n ux o i ≠ .hole → H.o (srcI n rs i) ≠ .hole ∧ (thG g n rs).bk (zo n ux o i) i = g.bk (H.o (srcI n rs i)) (srcI n rs i) :=fun i hi => by
  unfold zo at hi ⊢
  unfold srcI
  by_cases e:i < n
  ·rw [if_pos e] at hi ⊢
   rw [if_pos e]
   exact ⟨fun k => hi ((hz.old i e).hole.1 k),(hz.old i e).bk e⟩
  ·rw [if_neg e] at hi ⊢
   rw [if_neg e]
   by_cases l:i - n < ux.length
   ·have :=hz.new _ l
    have ec:(thG g n rs).ob i = g.cb (rs.getD (i - n) 0) :=if_neg e
    revert this
    generalize hx:H.o (rs.getD (i - n) 0) = x
    revert hi
    generalize ux.getD (i - n) .hole = y
    intro hi this
    cases this with
    |row h b => exact ⟨fun e => (nomatch e),ec⟩
   ·exact absurd (out i l) hi
 have hho:∀ i,i < n → (H.o i = .hole ↔ o i = .hole) :=fun i hi => (hz.old i hi).hole
 constructor
 ·intro i hi
  simp only at hi
  show zo n ux o i = _
  unfold zo
  rw [if_neg (by omega)]
  exact out i (by omega)
 ·intro i hi
  have :=key i hi
  simp only
  rw [this.2];exact h.ge _ this.1
 ·intro i j hi hj e
  have k1 :=key i hi
  have k2 :=key j hj
  simp only at e
  rw [k1.2,k2.2] at e
  have e :=h.inj _ _ k1.1 k2.1 e
  have lt:∀ i,zo n ux o i ≠ .hole → ¬ i < n → i - n < rs.length :=fun i hi hn => by
   apply Classical.byContradiction
   intro l
   unfold zo at hi
   rw [if_neg hn] at hi
   exact hi (out i (by rw [← hz.len];exact l))
  unfold srcI at e
  by_cases a:i < n <;> by_cases b:j < n
  ·rw [if_pos a,if_pos b] at e;exact e
  ·rw [if_pos a,if_neg b] at e
   have :=hz.ge _ (lt j hj b)
   omega
  ·rw [if_neg a,if_pos b] at e
   have :=hz.ge _ (lt i hi a)
   omega
  ·rw [if_neg a,if_neg b] at e
   have hi' :=lt i hi a
   have hj' :=lt j hj b
   rw [List.getD_eq_getElem?_getD,List.getD_eq_getElem?_getD,List.getElem?_eq_getElem hi',List.getElem?_eq_getElem hj'] at e
   simp only [Option.getD_some] at e
   have hp :=List.pairwise_iff_getElem.1 hz.nd
   rcases Nat.lt_trichotomy (i - n) (j - n) with k | k | k
   ·exact absurd e (hp _ _ hi' hj' k)
   ·omega
   ·exact absurd e.symm (hp _ _ hj' hi' k)
 ·intro i
  show ORel (thG g n rs) w i (zo n ux o i)
  unfold zo
  by_cases e:i < n
  ·rw [if_pos e]
   have hq :=h.rel i
   have hl :=h.live i
   have hold :=hz.old i e
   generalize H.o i = x at *
   generalize o i = y at *
   cases hold with
   |same _ b =>
    by_cases hh:x = .hole
    ·rw [hh];trivial
    ·exact hq.ext (qjd g n rs w) (qbo.mono (fun _ k => k.2) (qbo.below hl b.ok)) e rfl rfl rfl
   |mapo k =>
    obtain ⟨ces,ck,q1,q2,q3,q4⟩ :=hq
    have e1:(thG g n rs).ob i = g.ob i :=if_pos e
    exact ⟨ces,ck,by rw [e1];exact q1,by rw [e1];exact q2,k.rel h hl q3,q4⟩
  ·rw [if_neg e]
   by_cases l:i - n < ux.length
   ·have hn :=hz.new _ l
    have e1:(thG g n rs).ob i = g.cb (rs.getD (i - n) 0) :=if_neg e
    generalize rs.getD (i - n) 0 = c at *
    have hq :=h.rel c
    have hl :=h.live c
    generalize H.o c = x at *
    generalize ux.getD (i - n) .hole = y at *
    cases hn with
    | @row xs k sz ty t ht hb =>
     obtain ⟨arr,q1,q2,q3,q4,q5,q6,q7⟩ :=hq
     refine ⟨arr,by rw [e1];exact .of0 q1,by rw [e1];exact q2,by rw [← q4];exact Nat.mul_le_mul_right _ q3,fun j hj => ?_⟩
     have hj':j < xs.length :=by rw [q6];exact hj
     obtain ⟨v,k1,k2⟩ :=q7 j xs[j] (List.getElem?_eq_getElem hj')
     refine ⟨xs[j],v,by rw [ht];exact List.getElem?_eq_getElem hj',k1,?_⟩
     have hlx:Lives H.L xs :=hl
     exact VRel.ext (qjd g n rs w) _ _ (Live.mono (fun _ k => k.2) _ (Lives.at (Lives.below xs hlx hb) (List.getElem?_eq_getElem hj'))) k2
   ·rw [out i l];trivial
 ·intro i
  show qbo (AH.mk (n + ux.length) (n + ux.length) (zo n ux o)).L (zo n ux o i)
  have low:∀ j,H.L j ∧ j < n → (AH.mk (n + ux.length) (n + ux.length) (zo n ux o)).L j :=fun j hj => by
   show zo n ux o j ≠ .hole
   unfold zo
   rw [if_pos hj.2]
   exact fun e => hj.1 ((hho j hj.2).2 e)
  by_cases e:i < n
  ·rw [show zo n ux o i = o i from if_pos e]
   have hl :=h.live i
   have hold :=hz.old i e
   generalize H.o i = x at *
   generalize o i = y at *
   cases hold with
   |same _ b => exact qbo.mono low (qbo.below hl b.ok)
   |mapo k => exact k.live hho hl
  ·rw [show zo n ux o i = ux.getD (i - n) .hole from if_neg e]
   by_cases l:i - n < ux.length
   ·have hn :=hz.new _ l
    have hl :=h.live (rs.getD (i - n) 0)
    generalize H.o (rs.getD (i - n) 0) = x at *
    generalize ux.getD (i - n) .hole = y at *
    cases hn with
    | @row xs k sz ty t ht hb =>
     intro j a hj
     rw [ht] at hj
     have hlx:Lives H.L xs :=hl
     exact Live.mono low a (Lives.at (Lives.below xs hlx hb) hj)
   ·rw [out i l];trivial
 ·intro i
  show OBd (max (i + 1) (n + ux.length)) (zo n ux o i)
  by_cases e:i < n
  ·rw [show zo n ux o i = o i from if_pos e]
   have hold :=hz.old i e
   generalize H.o i = x at *
   generalize o i = y at *
   cases hold with
   |same _ b => exact b.ok.mono (by omega)
   |mapo k => exact fun p hp => ⟨Nat.le_trans (k.bdx p hp).1 (by omega),Nat.le_trans (k.bdx p hp).2 (by omega)⟩
  ·rw [show zo n ux o i = ux.getD (i - n) .hole from if_neg e]
   by_cases l:i - n < ux.length
   ·have hn :=hz.new _ l
    generalize H.o (rs.getD (i - n) 0) = x at *
    generalize ux.getD (i - n) .hole = y at *
    cases hn with
    | @row xs k sz ty t ht hb =>
     intro j a hj
     rw [ht] at hj
     have :=qd5 xs a (List.mem_of_getElem? hj)
     omega
   ·rw [out i l];trivial
 ·exact h.imz
 ·exact h.hB
theorem Out.th {g0:Gh} {w0:World} {H0:AH} (h:Out g0 B w0 H0 g w H) (hz:ThR n rs ux H.o o) (hL:∀ i,H0.L i → i < n):Out g0 B w0 H0 (thG g n rs) w ⟨n + ux.length,n + ux.length,zo n ux o⟩ :=by
 refine ⟨h.rel.th hz,h.ext.trans ((qjd g n rs w).mono hL),h.below,fun i hi => ?_,h.frame,fun k hk => ?_⟩
 ·show zo n ux o i ≠ .hole
  unfold zo
  rw [if_pos (hL i hi)]
  exact fun e => h.L i hi ((hz.old i (hL i hi)).hole.2 e)
 ·obtain ⟨i,hi,e⟩ :=hk
  simp only at hi e
  unfold zo at hi e
  by_cases hlt:i < n
  ·rw [if_pos hlt] at hi e
   exact h.own k ⟨i,fun k => hi ((hz.old i hlt).hole.1 k),by rw [← e,(hz.old i hlt).bk hlt]⟩
  ·rw [if_neg hlt] at hi e
   by_cases l:i - n < ux.length
   ·have hn :=hz.new _ l
    have ec:(thG g n rs).ob i = g.cb (rs.getD (i - n) 0) :=if_neg hlt
    refine h.own k ⟨rs.getD (i - n) 0,?_⟩
    generalize H.o (rs.getD (i - n) 0) = x at *
    generalize ux.getD (i - n) .hole = y at *
    cases hn with
    |row h b => exact ⟨fun e => (nomatch e),by rw [← e];exact ec.symm⟩
   ·exact absurd (by rw [List.getD_eq_getElem?_getD,List.getElem?_eq_none (by omega)];rfl) hi
end
def TmTh (n:Nat) (rs:List Nat) (ux:List AObj) (o:Nat → AObj) (tm:Tr AV) (l:List (Nat × AV)):Prop :=
 @List.rec (Nat × AV) (fun _ => Prop) True (fun p _ ih => @Prod.rec Nat AV (fun _ => Prop) (fun i x => (∃ y,tm.get i = some y ∧ ThV n rs ux o y x) ∧ ih) p) l
theorem TmTh.mem {n:Nat} {rs:List Nat} {ux:List AObj} {o:Nat → AObj} {tm:Tr AV}:∀ {l:List (Nat × AV)},TmTh n rs ux o tm l → ∀ j a,(j,a) ∈ l → ∃ y,tm.get j = some y ∧ ThV n rs ux o y a
 |(i,x) :: l,h,j,a,hm => by
  rcases List.mem_cons.1 hm with e | hm
  ·cases e;exact h.1
  ·exact TmTh.mem h.2 j a hm
def ObTh (n:Nat) (rs:List Nat) (ux:List AObj) (s:Nat → AObj) (h':Tr AObj) (k:Nat):Prop :=
 @Nat.rec (fun _ => Prop) True (fun i ih => OTh n rs ux s (s i) (hv h' i) ∧ ih) k
theorem ObTh.lt {n:Nat} {rs:List Nat} {ux:List AObj} {s:Nat → AObj} {h':Tr AObj}:∀ {k:Nat},ObTh n rs ux s h' k → ∀ i,i < k → OTh n rs ux s (s i) (hv h' i)
 |k + 1,hk,i,hi => by
  by_cases e:i = k
  ·subst e;exact hk.1
  ·exact ObTh.lt hk.2 i (by omega)
def UxTh (n:Nat) (s:Nat → AObj) (rs:List Nat):List AObj → Prop :=
 @List.rec Nat (fun _ => List AObj → Prop) (fun ux => @List.rec AObj (fun _ => Prop) True (fun _ _ _ => False) ux)
  (fun c _ ih ux => @List.rec AObj (fun _ => Prop) False (fun x r _ => (n ≤ c ∧ UTh n (s c) x) ∧ ih r) ux) rs
theorem UxTh.get {n:Nat} {s:Nat → AObj}:∀ {rs:List Nat} {ux:List AObj},UxTh n s rs ux → rs.length = ux.length ∧ ∀ j,j < rs.length → n ≤ rs.getD j 0 ∧ UTh n (s (rs.getD j 0)) (ux.getD j .hole)
 | [],[],_ => ⟨rfl,fun j h => absurd h (Nat.not_lt_zero _)⟩
 | [],_ :: _,h => h.elim
 | _ :: _,[],h => h.elim
 |c :: rs,x :: ux,h => by
  obtain ⟨h1,h2⟩ :=UxTh.get h.2
  refine ⟨by rw [List.length_cons,List.length_cons,h1],fun j hj => ?_⟩
  cases j with
  |zero => exact h.1
  |succ j =>
   rw [List.length_cons] at hj
   exact h2 j (by omega)
structure AtM (tm:Tr AV) (rd:Bool) (h:Tr AObj) (n b:Nat) (W:List Nat) (keep:List Nat) (ut:List (Nat × AV)) (uh:List (Nat × AObj)) (ux:List AObj) (rs:List Nat) (s':AS):Prop where
 df:s'.df = []
 pm:s'.pm = .no
 rd:s'.rd = rd
 bq:s'.b = b
 wr:s'.wr = W
 dom:unkT s'.tm = unkT tm
 tmr:TmTh n rs ux (hv s'.h) s'.tm (apL (kept tm keep) ut)
 ob:ObTh n rs ux (hv s'.h) (tput uh h) n
 nd:rs.Nodup
 un:UxTh n (hv s'.h) rs ux
 sm:ObSm b W s'.h (tput uh h) n
 zx:ZxL (appT ux n (tput uh h)) n ux
section
variable {tm:Tr AV} {rd:Bool} {h:Tr AObj} {n b:Nat} {W:List Nat} {s':AS} {keep:List Nat} {ut:List (Nat × AV)} {uh:List (Nat × AObj)} {ux:List AObj} {rs:List Nat}
theorem AtM.thr (ha:AtM tm rd h n b W keep ut uh ux rs s'):ThR n rs ux (hv s'.h) (hv (tput uh h)) :=⟨ha.un.get.1,ha.nd,fun j hj => (ha.un.get.2 j hj).1,ha.ob.lt,fun j hj => (ha.un.get.2 j (by rw [ha.un.get.1];exact hj)).2⟩
theorem AtM.tms (ha:AtM tm rd h n b W keep ut uh ux rs s'):∀ i a,(qby tm rd h n b W keep ut uh ux).tm.get i = some a → ∃ y,s'.tm.get i = some y ∧ ThV n rs ux (hv s'.h) y a :=by
 intro i a hi
 obtain ⟨⟨y,h1⟩,h2⟩ :=qcg _ _ _ _ hi
 rcases h2 with h2 | ⟨_,h3⟩
 ·exact ha.tmr.mem i a h2
 ·rw [qbb] at h3
  have hd:(s'.tm.get i).map (fun _ => AV.unk) = (tm.get i).map fun _ => AV.unk :=by rw [← qbb,← qbb,ha.dom]
  cases hs:tm.get i with
  |none => rw [hs] at h3;cases h3
  |some z =>
   rw [hs] at h3 hd
   simp only [Option.map_some,Option.some.injEq] at h3
   subst h3
   cases hs':s'.tm.get i with
   |none => rw [hs'] at hd;cases hd
   |some z' => exact ⟨z',rfl,.wk (WkV.unk z') (Nat.zero_le _)⟩
theorem AtM.adapt (ha:AtM tm rd h n b W keep ut uh ux rs s') {g g0:Gh} {B:Nat} {w w0:World} {H H0:AH} {fr:Frame} {cs:List Frame} (hH:H.o = hv s'.h) (hL:∀ i,H0.L i → i < n)
  (hr:FrRel g B w (s'.st H) fr cs) (ho:Out g0 B w0 H0 g w H) :
  FrRel (thG g n rs) B w ((qby tm rd h n b W keep ut uh ux).st ⟨n + ux.length,n + ux.length,zo n ux (hv (tput uh h))⟩) fr cs ∧ Out g0 B w0 H0 (thG g n rs) w ⟨n + ux.length,n + ux.length,zo n ux (hv (tput uh h))⟩ :=by
 have hz:ThR n rs ux H.o (hv (tput uh h)) :=by rw [hH];exact ha.thr
 have hrH:HRel g B w H :=hr.h
 refine ⟨⟨hrH.th hz,⟨fun t a ht => ?_,fun t a ht => ?_⟩,?_,trivial,fun e => hr.rd (by show s'.rd = false;rw [ha.rd];exact e)⟩,ho.th hz hL⟩
 ·obtain ⟨y,k1,k2⟩ :=ha.tms t a ht
  have :=hr.tm.rel t y k1
  rw [← hH] at k2
  exact ⟨this.1,k2.rel hrH (hr.tm.live t y k1) this.2⟩
 ·obtain ⟨y,k1,k2⟩ :=ha.tms t a ht
  rw [← hH] at k2
  exact k2.live (fun i hi => (hz.old i hi).hole) (hr.tm.live t y k1)
 ·have hdf :=hr.df
  have e:(s'.st H).df = [] :=ha.df
  rw [e] at hdf
  exact hdf
theorem SemT.postM {h':Tr AObj} {P:Program} {B:Nat} {its:List Item} {σ:St} {e:AEx} (he:e = .normal ∨ ∃ id,e = .exit id) {H1:AH} (hH:H1.o = hv s'.h) (h:SemT P B its σ e (s'.st H1)) (ha:AtM tm rd h' n b W keep ut uh ux rs s') (hm:∀ i,σ.H.L i → i < n) :
  SemT P B its σ e ((qby tm rd h' n b W keep ut uh ux).st ⟨n + ux.length,n + ux.length,zo n ux (hv (tput uh h'))⟩) :=by
 intro g fr cs w k hr hmo ht hro k' hk
 obtain ⟨g',fr',cs',w',h1,h2,h3,h4,h5,h6,h7⟩ :=h g fr cs w k hr hmo ht hro k' hk
 obtain ⟨z1,z2⟩ :=ha.adapt hH hm h1 h2
 refine ⟨thG g' n rs,fr',cs',w',z1,z2,h3,h4,(fun _ l e => by cases e),?_,h7⟩
 rcases he with rfl | ⟨id,rfl⟩
 ·exact h6
 ·exact h6
end
theorem qva {tm:Tr AV} {rd:Bool} {h:Tr AObj} {n b:Nat} {W:List Nat} {keep:List Nat} {ut:List (Nat × AV)} {uh:List (Nat × AObj)} {ux:List AObj} (he:HEnd h n) (hx:∀ j,j < ux.length → (appT ux n (tput uh h)).get (n + j) = some (ux.getD j .hole)):hv (qby tm rd h n b W keep ut uh ux).h = zo n ux (hv (tput uh h)) :=
 qo9 (D :=[]) (tm :=tm) (rd :=rd) (b :=b) (W :=W) (keep :=keep) (ut :=ut) he hx
theorem quc {E:Env} {S:Sub} (hS:S = qbg E.P) {A:Type} {x y:Code} {tm:Tr AV} {df:List ADf} {pm:APm} {rd:Bool} {h:Tr AObj} {n b:Nat} {W:List Nat} {K:KE}
  (keep:List Nat) (ut:A → List (Nat × AV)) (uh:A → List (Nat × AObj)) (ux:A → List AObj) (I:A → Prop) (hbn:b ≤ n)
  (h1:S.code x ⟨tm,df,pm,rd,h,n,b,W⟩ fun e s' => @AEx.rec (fun _ => Prop) (∃ a rs,I a ∧ AtM tm rd h n b W keep (ut a) (uh a) (ux a) rs s') (fun id => K (.exit id) s') (K .ret s') (fun l => K (.panic l) s') e)
  (h2:∀ a,I a → ∀ N,N = endN (ux a) n → S.code y ⟨tput (apL (kept tm keep) (ut a)) (unkT tm),[],.no,rd,appT (ux a) n (tput (uh a) h),N,b,W⟩ K):S.code (.seq x y) ⟨tm,df,pm,rd,h,n,b,W⟩ K :=by
 subst hS
 intro he
 obtain ⟨e,s1,k1,k2,k3⟩ :=h1 he
 by_cases hn:e = .normal
 ·subst hn
  obtain ⟨a,rs,hIa,hah⟩ :=k1
  have he:HEnd h n :=he
  obtain ⟨e2,s2,q1,q2,q3⟩ :=h2 a hIa _ rfl (qdl (tm :=tm) (rd :=rd) (b :=b) (W :=W) (keep :=keep) (ut :=ut a) (uh :=uh a) (ux :=ux a) he)
  have hhv :=qva (tm :=tm) (rd :=rd) (b :=b) (W :=W) (keep :=keep) (ut :=ut a) he hah.zx.get
  refine ⟨e2,s2,q1,⟨q2.he,q2.b,?_⟩,fun B H hH => ?_⟩
  ·have k:Kept b h W s1.h s1.wr :=k2.kept
   rw [hah.wr] at k
   have k':Kept b (qby tm rd h n b W keep (ut a) (uh a) (ux a)).h W s2.h s2.wr :=q2.kept
   have k0:Kept b h W (qby tm rd h n b W keep (ut a) (uh a) (ux a)).h W :=⟨fun x hx => hx,fun x hx hn => by
    rw [hhv]
    unfold zo
    rw [if_pos (by omega)]
    exact (hah.sm.lt x (by omega) hx hn).symm.trans (k.same x hx hn)⟩
   exact k0.trans k'
  ·obtain ⟨H1,p1,p2⟩ :=k3 B H hH
   obtain ⟨H2,p3,p4⟩ :=q3 B ⟨n + (ux a).length,n + (ux a).length,zo n (ux a) (hv (tput (uh a) h))⟩ hhv.symm
   refine ⟨H2,p3,Sem.seq (σ1 :=(qby tm rd h n b W keep (ut a) (uh a) (ux a)).st ⟨n + (ux a).length,n + (ux a).length,zo n (ux a) (hv (tput (uh a) h))⟩) ?_ p4⟩
   refine SemT.postM (.inl rfl) p1 p2 hah fun i hi => ?_
   apply Nat.lt_of_not_le
   intro hle
   have hi:H.o i ≠ .hole :=hi
   rw [hH] at hi
   exact hi (he.hole (by show n ≤ i;omega))
 ·refine ⟨e,s1,?_,k2,fun B H hH => ?_⟩
  ·cases e <;> first
    |exact absurd rfl hn
    |exact k1
  ·obtain ⟨H1,p1,p2⟩ :=k3 B H hH
   exact ⟨H1,p1,Sem.seq_exit p2 hn⟩
theorem qq0 {α:Type}:∀ {s t:Tr α},(∀ p,Tr.getP p s = Tr.getP p t) → s = t
 | .nil,.nil,_ => rfl
 | .nil,.node v _ _,h => by cases h .e
 | .node v _ _,.nil,h => by cases h .e
 | .node v l r,.node v' l' r',h => by
  have e1:v = v' :=Option.some.inj (h .e)
  rw [e1,qq0 (s :=l) (t :=l') fun p => h (.l p),qq0 (s :=r) (t :=r') fun p => h (.r p)]
theorem qw6 {α:Type} {s t:Tr α} (h:∀ i,s.get i = t.get i):s = t :=qq0 fun p => by
 obtain ⟨i,rfl⟩ :=qjy p
 exact h i
end
end Go.Abs

namespace Go.Abs
open Go
noncomputable section
theorem qp0 {P:Program} {E:EqT → PcT → Env} {q0:EqT} (hE:(E q0 (symPc P)).Ok) (hP:(E q0 (symPc P)).P = P) {f:FuncId} {args:List AV} {v:AV} (ha:Lives noL args) (hl:Live noL v)
  (h:∀ S q pc,S = qbg P → q = q0 → pc = symPc P → (E q pc).Ok → exFn (E q pc) S f .normal args .no .nil 0 fun e _ h1 _ _ => ∃ u,e = .ret u ∧ FzV (hv h1) u v):Pure P f args v :=by
 have hs :=qbk P
 obtain ⟨e,pm',h',n',_,⟨u,rfl,hw⟩,_,_,h3⟩ :=qef hE (S :=qbg P) (by rw [hP];exact hs) f .normal args .no .nil 0 _ (h _ _ _ rfl rfl rfl hE) qcr
 refine qjw (fun B => ?_) ha hl
 obtain ⟨H',h4,h5⟩ :=h3 B AH.nil qc8.symm
 rw [hP] at h5
 exact ⟨u,H',CSem.of_F h5,by rw [h4];exact hw⟩
end
end Go.Abs
/-! Code cut between two parts: cells that were written in the first part never change in the second one. A list that grew becomes cells with room that is known. -/
namespace Go.Abs
open Go
noncomputable section
mutual
theorem qm2:∀ (v:AV),Live noL v → bd v = 0
 | .unk,_ => rfl
 | .int _ _,_ => rfl
 | .bool _,_ => rfl
 | .str _,_ => rfl
 | .nilp,_ => rfl
 | .ptr _ _,h => h.elim
 | .lptr xs _,h => qds xs h
 | .gp _ _,_ => rfl
 | .nils,_ => rfl
 | .slc _ _ _ _,h => h.elim
 | .lst xs _ .no,h => qds xs h.1
 | .lst xs _ .full,h => qds xs h.1
 | .lst xs _ (.ch c),h => (h.2 c rfl).elim
 | .nilm,_ => rfl
 | .map _,h => h.elim
 | .nilf,_ => rfl
 | .func _ f c,h => by show Nat.max (bdl f) (bdl c) = 0;rw [qds f h.1,qds c h.2];rfl
 | .yld _,h => h.elim
 | .nili,_ => rfl
 | .iface _ a,h => qm2 a h
 | .agg cs,h => qds cs h
 | .tup cs,h => qds cs h
theorem qds:∀ (xs:List AV),Lives noL xs → bdl xs = 0
 | [],_ => rfl
 |x :: xs,h => by show Nat.max (bd x) (bdl xs) = 0;rw [qm2 x h.1,qds xs h.2];rfl
end
theorem qzf (v:AV) (h:Live noL v):bd v ≤ 0 :=Nat.le_of_eq (qm2 v h)
def TmFz (o:Nat → AObj) (tm:Tr AV) (l:List (Nat × AV)):Prop :=
 @List.rec (Nat × AV) (fun _ => Prop) True (fun p _ ih => @Prod.rec Nat AV (fun _ => Prop) (fun i x => (∃ y,tm.get i = some y ∧ FzV o y x ∧ Live noL x) ∧ ih) p) l
theorem TmFz.mem {o:Nat → AObj} {tm:Tr AV}:∀ {l:List (Nat × AV)},TmFz o tm l → ∀ j a,(j,a) ∈ l → ∃ y,tm.get j = some y ∧ FzV o y a ∧ Live noL a
 |(i,x) :: l,h,j,a,hm => by
  rcases List.mem_cons.1 hm with e | hm
  ·cases e;exact h.1
  ·exact TmFz.mem h.2 j a hm
structure AtF (tm:Tr AV) (rd:Bool) (W:List Nat) (keep:List Nat) (ut:List (Nat × AV)) (s':AS):Prop where
 df:s'.df = []
 pm:s'.pm = .no
 rd:s'.rd = rd
 bq:s'.b = 0
 wr:s'.wr = W
 dom:unkT s'.tm = unkT tm
 tmr:TmFz (hv s'.h) s'.tm (apL (kept tm keep) ut)
def q0j (tm:Tr AV) (rd:Bool) (W:List Nat) (keep:List Nat) (ut:List (Nat × AV)):AS :=⟨tput (apL (kept tm keep) ut) (unkT tm),[],.no,rd,.nil,0,0,W⟩
section
variable {tm:Tr AV} {rd:Bool} {W:List Nat} {s':AS} {keep:List Nat} {ut:List (Nat × AV)} {g g0:Gh} {B:Nat} {w w0:World} {H H0:AH}
theorem qvy {tm tm':Tr AV} {l:List (Nat × AV)} {p:AV → AV → Prop} (hu:∀ y,p y .unk) (hd:unkT tm' = unkT tm) (hm:∀ j a,(j,a) ∈ l → ∃ y,tm'.get j = some y ∧ p y a):∀ i a,(tput l (unkT tm)).get i = some a → ∃ y,tm'.get i = some y ∧ p y a :=by
 intro i a hi
 obtain ⟨⟨y,h1⟩,h2⟩ :=qcg _ _ _ _ hi
 rcases h2 with h2 | ⟨_,h3⟩
 ·exact hm i a h2
 ·rw [qbb] at h3
  have hd:(tm'.get i).map (fun _ => AV.unk) = (tm.get i).map fun _ => AV.unk :=by rw [← qbb,← qbb,hd]
  cases hs:tm.get i with
  |none => rw [hs] at h3;cases h3
  |some z =>
   rw [hs] at h3 hd
   simp only [Option.map_some,Option.some.injEq] at h3
   subst h3
   cases hs':tm'.get i with
   |none => rw [hs'] at hd;cases hd
   |some z' => exact ⟨z',rfl,hu z'⟩
theorem HRel.frzNil (h:HRel g B w H):HRel (frzG g H) B w AH.nil where
 wf :=fun _ _ => rfl
 ge :=fun _ h => absurd rfl h
 inj :=fun _ _ h => absurd rfl h
 rel :=fun _ => trivial
 live :=fun _ => trivial
 kp :=fun _ => trivial
 imz :=fun b hb => by
  rcases qlq (g :=g) (H :=H) b with e | ⟨n,i,t,ty,e1,e2⟩
  ·rw [e];exact h.imz b hb
  ·have :=(h.ge i (by rw [e1];intro h;cases h)).2
   rw [e1] at this
   have:g.ob i < w.heap.size :=this
   omega
 hB :=h.hB
theorem Out.frzNil (ho:Out g0 B w0 H0 g w H) (hL:∀ i,¬ H0.L i):Out g0 B w0 H0 (frzG g H) w AH.nil :=by
 refine ⟨ho.rel.frzNil,⟨fun i h => absurd h (hL i),fun i h => absurd h (hL i),fun i h => absurd h (hL i),fun b => Nat.le_trans (ho.ext.im b) (qpe ho.rel b),ho.ext.cell⟩,ho.below,fun i h => absurd h (hL i),fun k hk hn => ?_,fun k hk => absurd hk (qda _ k)⟩
 have hfr :=ho.frame k hk hn
 refine ⟨hfr.1,?_⟩
 rcases qlq (g :=g) (H :=H) k with e | ⟨n,i,t,ty,e1,e2⟩
 ·rw [e];exact hfr.2
 ·rcases ho.own k ⟨i,(by rw [e1];intro h;cases h),(by rw [e1];exact e2)⟩ with h | h
  ·exact absurd h hn
  ·omega
theorem AtF.adapt (ha:AtF tm rd W keep ut s') {fr:Frame} {cs:List Frame} (hH:H.o = hv s'.h) (hr:FrRel g B w (s'.st H) fr cs):FrRel (frzG g H) B w ((q0j tm rd W keep ut).st AH.nil) fr cs :=by
 have hrH:HRel g B w H :=hr.h
 have tms :=qvy (tm :=tm) (p :=fun y a => FzV (hv s'.h) y a ∧ Live noL a) (fun y => ⟨fun _ _ _ _ _ _ _ _ => by simp only [VRel],trivial⟩) ha.dom fun j a h => ha.tmr.mem j a h
 refine ⟨hrH.frzNil,⟨fun t a ht => ?_,fun t a ht => ?_⟩,?_,trivial,fun e => hr.rd (by show s'.rd = false;rw [ha.rd];exact e)⟩
 ·obtain ⟨y,k1,k2,k3⟩ :=tms t a ht
  have :=hr.tm.rel t y k1
  rw [← hH] at k2
  exact ⟨this.1,k2 g B w H _ rfl hrH this.2⟩
 ·obtain ⟨y,k1,k2,k3⟩ :=tms t a ht
  exact k3.ofNo
 ·have hdf :=hr.df
  have e:(s'.st H).df = [] :=ha.df
  rw [e] at hdf
  exact hdf
end
def seqs (zs:List Code) (y:Code):Code :=zs.foldr .seq y
def runs (S:Sub):List Code → AS → (AS → Prop) → Prop
 | [],s,K => K s
 |z :: zs,s,K => S.code z s fun e s' => @AEx.rec (fun _ => Prop) (runs S zs s' K) (fun _ => False) False (fun _ => False) e
def SemZ (P:Program) (B:Nat) (zs:List Code) (σ σ':St):Prop :=
 ∀ y g fr cs w k,FrRel g B w σ fr cs → fr.mode = .run → fr.todo = [.code (seqs zs y)] ++ k →
  ∃ g' fr' cs' w',FrRel g' B w' σ' fr' cs' ∧ Out g B w σ.H g' w' σ'.H ∧ SameFr fr fr' ∧ CsOk σ.pm cs cs' ∧ ((∀ l,σ.pm ≠ .pan l) → ∀ l,σ'.pm ≠ .pan l) ∧ fr'.mode = .run ∧ fr'.todo = [.code y] ++ k ∧
   Steps P (lone fr cs w) (lone fr' cs' w')
theorem qmh {P:Program}:∀ (zs:List Code) (s:AS) (K:AS → Prop),runs (qbg P) zs s K → HEnd s.h s.n → ∃ s',K s' ∧ Aft s s' ∧ ∀ (B:Nat) (H:AH),H.o = hv s.h → ∃ H':AH,H'.o = hv s'.h ∧ SemZ P B zs (s.st H) (s'.st H')
 | [],s,K,h,he => ⟨s,h,⟨he,rfl,Kept.refl _ _ _⟩,fun B H hH => ⟨H,hH,fun y g fr cs w k hr hm ht => ⟨g,fr,cs,w,hr,Out.refl hr.h,⟨rfl,rfl,rfl⟩,CsOk.refl _ _ _ hr.pm,fun h => h,hm,ht,.refl _ _⟩⟩⟩
 |z :: zs,s,K,h,he => by
  obtain ⟨e,s1,k1,k2,k3⟩ :=h he
  cases e with
  |exit id => exact k1.elim
  |ret => exact k1.elim
  |panic l => exact k1.elim
  |normal =>
   obtain ⟨s2,q1,q2,q3⟩ :=qmh zs s1 K k1 k2.he
   refine ⟨s2,q1,k2.trans q2,fun B H hH => ?_⟩
   obtain ⟨H1,p1,p2⟩ :=k3 B H hH
   obtain ⟨H2,p3,p4⟩ :=q3 B H1 p1
   refine ⟨H2,p3,fun y g fr cs w k hr hm ht => ?_⟩
   have st:Steps P (lone fr cs w) (lone { fr with todo :=[.code z] ++ ([.code (seqs zs y)] ++ k) } cs w) :=qa5 (by
    have ht1:fr.todo = Item.code (.seq z (seqs zs y)) :: k :=ht
    simp only [List.cons_append,List.nil_append]
    simp [stepG,stepG.exec,hm,ht1])
   obtain ⟨g1,fr1,cs1,w1,a1,a2,a3,a4,a5,a6,a7⟩ :=p2 g { fr with todo :=[.code z] ++ ([.code (seqs zs y)] ++ k) } cs w ([.code (seqs zs y)] ++ k) (hr.todo _) hm rfl (fun e => by cases e) _ rfl
   obtain ⟨g2,fr2,cs2,w2,f1,f2,f3,f4,f5,f6,f7,f8⟩ :=p4 y g1 fr1 cs1 w1 k a1 a6.1 a6.2
   exact ⟨g2,fr2,cs2,w2,f1,a2.trans f2,⟨f3.fn.trans a3.fn,f3.kind.trans a3.kind,f3.round.trans a3.round⟩,a4.trans f4 a5,fun hp => f5 (a5 hp),f6,f7,st.trans (a7.trans f8)⟩
theorem qd0 {P:Program} {S:Sub} (hS:S = qbg P) {zs:List Code} {y:Code} {tm:Tr AV} {df:List ADf} {pm:APm} {rd:Bool} {h:Tr AObj} {n:Nat} {W:List Nat} {K:KE}
  (keep:List Nat) (ut:List (Nat × AV)) (hh:∀ i,hv h i = .hole)
  (h1:runs S zs ⟨tm,df,pm,rd,h,n,0,W⟩ fun s' => AtF tm rd W keep ut s')
  (h2:S.code y ⟨tput (apL (kept tm keep) ut) (unkT tm),[],.no,rd,.nil,0,0,W⟩ K):S.code (seqs zs y) ⟨tm,df,pm,rd,h,n,0,W⟩ K :=by
 subst hS
 intro he
 obtain ⟨s1,ha,k2,k3⟩ :=qmh zs _ _ h1 he
 obtain ⟨e3,s3,q1,q2,q3⟩ :=h2 qcr
 refine ⟨e3,s3,q1,⟨q2.he,q2.b,?_⟩,fun B H hH => ?_⟩
 ·have k':Kept 0 .nil W s3.h s3.wr :=q2.kept
  exact ⟨k'.sub,fun x hx _ => absurd hx (Nat.not_lt_zero _)⟩
 ·obtain ⟨H1,p1,p2⟩ :=k3 B H hH
  obtain ⟨H3,p5,p6⟩ :=q3 B AH.nil qc8.symm
  have hL:∀ i,¬ H.L i :=fun i hi => by
   have hi:H.o i ≠ .hole :=hi
   rw [hH] at hi
   exact hi (hh i)
  refine ⟨H3,p5,fun g fr cs w kk hr hm ht hro k' hk => ?_⟩
  obtain ⟨g1,fr1,cs1,w1,a1,a2,a3,a4,a5,a6,a7,a8⟩ :=p2 y g fr cs w kk hr hm ht
  have z1 :=ha.adapt p1 a1
  obtain ⟨g3,fr3,cs3,w3,m1,m2,m3,m4,m5,m6,m7⟩ :=p6 (frzG g1 H1) fr1 cs1 w1 kk z1 a6 a7 (fun e => a3.round.trans (hro e)) k' hk
  refine ⟨g3,fr3,cs3,w3,m1,(a2.frzNil hL).trans m2,⟨m3.fn.trans a3.fn,m3.kind.trans a3.kind,m3.round.trans a3.round⟩,?_,fun _ => m5 fun l e => (nomatch e),m6,a8.trans m7⟩
  have q5:CsOk .no cs1 cs3 :=m4
  have q45:CsOk (AS.st s1 H1).pm cs1 cs3 :=by
   rw [show (AS.st s1 H1).pm = .no from ha.pm]
   exact q5
  exact a4.trans q45 a5
/-! ### A list that grew, then cells with room that is known -/
theorem ql5:∀ (n:Nat) (xs:List AV),xs.length ≤ n → ∃ t:Tr AV,TOf xs t
 | _,[],_ => ⟨.nil,fun j => by rw [Tr.get_nil];rfl⟩
 |n + 1,x :: r,h => by
  have hl:∀ (l:List AV),∃ e o:List AV,(∀ j,e[j]? = l[2 * j]?) ∧ (∀ j,o[j]? = l[2 * j + 1]?) ∧ e.length ≤ l.length ∧ o.length ≤ l.length :=by
   intro l
   induction l with
   |nil => exact ⟨[],[],fun j => by simp,fun j => by simp,Nat.le_refl _,Nat.le_refl _⟩
   |cons a l ih =>
    obtain ⟨e,o,h1,h2,h3,h4⟩ :=ih
    refine ⟨a :: o,e,fun j => ?_,fun j => ?_,by simp only [List.length_cons];omega,by simp only [List.length_cons];omega⟩
    ·cases j with
     |zero => rfl
     |succ j =>
      rw [List.getElem?_cons_succ,h2,show 2 * (j + 1) = (2 * j + 1) + 1 by omega,List.getElem?_cons_succ]
    ·rw [h1,List.getElem?_cons_succ]
  obtain ⟨e,o,h1,h2,h3,h4⟩ :=hl r
  have hr:r.length ≤ n :=by simp only [List.length_cons] at h;omega
  obtain ⟨te,k1⟩ :=ql5 n e (by omega)
  obtain ⟨to,k2⟩ :=ql5 n o (by omega)
  refine ⟨.node x te to,fun j => ?_⟩
  cases j with
  |zero => rfl
  |succ j =>
   rw [List.getElem?_cons_succ]
   by_cases hq:j % 2 = 0
   ·rw [Tr.get_node_even _ _ _ hq,k1,h1,show 2 * (j / 2) = j by omega]
   ·rw [Tr.get_node_odd _ _ _ hq,k2,h2,show 2 * (j / 2) + 1 = j by omega]
def thC (g:Gh) (c:Nat):Gh :={ g with ob :=fun _ => g.cb c }
theorem qq1 (g:Gh) (w:World) (r:Nat):Ext noL g w (thC g r) w :=⟨fun _ h => h.elim,fun _ h => h.elim,fun _ h => h.elim,fun _ => Nat.le_refl _,fun _ _ _ => rfl⟩
def TmC (r k C:Nat) (tm:Tr AV) (l:List (Nat × AV)):Prop :=
 @List.rec (Nat × AV) (fun _ => Prop) True (fun p _ ih => @Prod.rec Nat AV (fun _ => Prop) (fun i x => (∃ y,tm.get i = some y ∧ ((WkV y x ∧ Live noL x) ∨ (y = .lst [] k (.ch r) ∧ x = .slc 0 0 k C))) ∧ ih) p) l
theorem TmC.mem {r k C:Nat} {tm:Tr AV}:∀ {l:List (Nat × AV)},TmC r k C tm l → ∀ j a,(j,a) ∈ l → ∃ y,tm.get j = some y ∧ ((WkV y a ∧ Live noL a) ∨ (y = .lst [] k (.ch r) ∧ a = .slc 0 0 k C))
 |(i,x) :: l,h,j,a,hm => by
  rcases List.mem_cons.1 hm with e | hm
  ·cases e;exact h.1
  ·exact TmC.mem h.2 j a hm
structure AtC (tm:Tr AV) (rd:Bool) (W:List Nat) (ut:Nat → List (Nat × AV)) (xs:List AV) (k sz:Nat) (ty:TypeId) (r:Nat) (s':AS):Prop where
 df:s'.df = []
 pm:s'.pm = .no
 rd:s'.rd = rd
 bq:s'.b = 0
 wr:s'.wr = W
 dom:unkT s'.tm = unkT tm
 ob:hv s'.h r = .mrow xs k sz ty
 tmr:∀ C,TmC r k C s'.tm (ut C)
section
variable {tm:Tr AV} {rd:Bool} {W:List Nat} {s':AS} {ut:Nat → List (Nat × AV)} {xs:List AV} {k sz r:Nat} {ty:TypeId} {t:Tr AV} {g g0:Gh} {B:Nat} {w w0:World} {H H0:AH}
def oneC (x:AObj):AH :=⟨1,1,hv (.node x .nil .nil)⟩
theorem qgw (x:AObj) (i:Nat):(oneC x).o i = if i = 0 then x else .hole :=by
 show hv _ i = _
 cases i with
 |zero => rfl
 |succ i =>
  unfold hv
  rw [Tr.get_single,if_neg (Nat.succ_ne_zero i)]
theorem HRel.thC (h:HRel g B w H) (hr:H.o r = .mrow xs k sz ty) (hxs:Lives noL xs) (ht:TOf (xs ++ List.replicate (g.cc r * sz - k * sz) .unk) t):HRel (thC g r) B w (oneC (.cells t (g.cc r * sz) ty)) :=by
 have hR :=h.rel r
 rw [hr] at hR
 obtain ⟨arr,q1,q2,q3,q4,q5,q6,q7⟩ :=hR
 have hge :=h.ge r (by rw [hr];intro h;cases h)
 rw [hr] at hge
 have tl:∀ j a,t.get j = some a → Live noL a :=fun j a e => by
  rw [ht] at e
  have :=List.mem_of_getElem? e
  rcases List.mem_append.1 this with m | m
  ·exact Lives.mem xs a hxs m
  ·rw [List.eq_of_mem_replicate m];trivial
 constructor
 ·intro i hi
  have hi:1 ≤ i :=hi
  rw [qgw,if_neg (by omega)]
 ·intro i hi
  rw [qgw] at hi ⊢
  by_cases e:i = 0
  ·rw [if_pos e];exact hge
  ·rw [if_neg e] at hi;exact absurd rfl hi
 ·intro i j hi hj _
  rw [qgw] at hi hj
  by_cases e:i = 0
  ·by_cases e2:j = 0
   ·omega
   ·rw [if_neg e2] at hj;exact absurd rfl hj
  ·rw [if_neg e] at hi;exact absurd rfl hi
 ·intro i
  rw [qgw]
  by_cases e:i = 0
  ·rw [if_pos e]
   refine ⟨arr,.of0 q1,q2,Nat.le_of_eq q4,fun j hj => ?_⟩
   by_cases hjk:j < xs.length
   ·obtain ⟨v,k1,k2⟩ :=q7 j xs[j] (List.getElem?_eq_getElem hjk)
    refine ⟨xs[j],v,by rw [ht,List.getElem?_append_left hjk];exact List.getElem?_eq_getElem hjk,k1,?_⟩
    exact VRel.ext (qq1 g w r) _ _ (Lives.mem xs _ hxs (List.getElem_mem hjk)) k2
   ·refine ⟨.unk,arr[j]'(by omega),?_,Array.getElem?_eq_getElem (by omega),by simp only [VRel]⟩
    rw [ht,List.getElem?_append_right (by omega),List.getElem?_replicate,if_pos (by omega)]
  ·rw [if_neg e];trivial
 ·intro i
  rw [qgw]
  by_cases e:i = 0
  ·rw [if_pos e]
   exact fun j a hj => (tl j a hj).ofNo
  ·rw [if_neg e];trivial
 ·intro i
  rw [qgw]
  by_cases e:i = 0
  ·rw [if_pos e]
   exact fun j a hj => Nat.le_trans (qzf a (tl j a hj)) (Nat.zero_le _)
  ·rw [if_neg e];trivial
 ·exact h.imz
 ·exact h.hB
theorem Out.thC (ho:Out g0 B w0 H0 g w H) (hL:∀ i,¬ H0.L i) (hr:H.o r = .mrow xs k sz ty) (hxs:Lives noL xs) (ht:TOf (xs ++ List.replicate (g.cc r * sz - k * sz) .unk) t):Out g0 B w0 H0 (thC g r) w (oneC (.cells t (g.cc r * sz) ty)) :=by
 refine ⟨ho.rel.thC hr hxs ht,⟨fun i h => absurd h (hL i),fun i h => absurd h (hL i),fun i h => absurd h (hL i),ho.ext.im,ho.ext.cell⟩,ho.below,fun i h => absurd h (hL i),ho.frame,fun k hk => ?_⟩
 obtain ⟨i,hi,e⟩ :=hk
 rw [qgw] at hi e
 by_cases e0:i = 0
 ·rw [if_pos e0] at e
  refine ho.own k ⟨r,(by rw [hr];intro h;cases h),?_⟩
  rw [hr]
  exact e
 ·rw [if_neg e0] at hi;exact absurd rfl hi
def q0k (tm:Tr AV) (rd:Bool) (W:List Nat) (ut:List (Nat × AV)) (x:AObj):AS :=⟨tput ut (unkT tm),[],.no,rd,.node x .nil .nil,1,0,W⟩
theorem AtC.adapt (ha:AtC tm rd W ut xs k sz ty r s') (hxs:Lives noL xs) (hH:H.o = hv s'.h) {fr:Frame} {cs:List Frame} (hr:FrRel g B w (s'.st H) fr cs) (ht:TOf (xs ++ List.replicate (g.cc r * sz - k * sz) .unk) t):k ≤ g.cc r ∧ FrRel (thC g r) B w ((q0k tm rd W (ut (g.cc r)) (.cells t (g.cc r * sz) ty)).st (oneC (.cells t (g.cc r * sz) ty))) fr cs :=by
 have hrH:HRel g B w H :=hr.h
 have hob:H.o r = .mrow xs k sz ty :=by rw [hH];exact ha.ob
 have hR :=hrH.rel r
 rw [hob] at hR
 obtain ⟨arr,q1,q2,q3,q4,q5,q6,q7⟩ :=hR
 have tms :=qvy (tm :=tm) (p :=fun y a => (WkV y a ∧ Live noL a) ∨ (y = .lst [] k (.ch r) ∧ a = .slc 0 0 k (g.cc r))) (fun y => .inl ⟨WkV.unk y,trivial⟩) ha.dom fun j a h => (ha.tmr (g.cc r)).mem j a h
 have hx :=qq1 g w r
 refine ⟨q3,hrH.thC hob hxs ht,⟨fun t a ht => ?_,fun t a ht => ?_⟩,?_,trivial,fun e => hr.rd (by show s'.rd = false;rw [ha.rd];exact e)⟩
 ·obtain ⟨y,k1,k2⟩ :=tms t a ht
  have :=hr.tm.rel t y k1
  refine ⟨this.1,?_⟩
  rcases k2 with ⟨k2,k3⟩ | ⟨rfl,rfl⟩
  ·exact VRel.ext hx _ _ k3 (k2.wk _ _ _ this.2)
  ·have hv :=this.2
   simp only [VRel] at hv ⊢
   obtain ⟨b,off,cap,p1,p2,_,_,p5⟩ :=hv
   obtain ⟨_,p5⟩ :=p5
   obtain ⟨p6,p7,p8⟩ :=p5 q5.symm
   subst p6 p7 p8
   exact ⟨_,p1,p2,fun _ => rfl⟩
 ·obtain ⟨y,k1,k2⟩ :=tms t a ht
  rcases k2 with ⟨k2,k3⟩ | ⟨rfl,rfl⟩
  ·exact k3.ofNo
  ·show (oneC _).o 0 ≠ .hole
   rw [qgw,if_pos rfl]
   exact fun h => nomatch h
 ·have hdf :=hr.df
  have e:(s'.st H).df = [] :=ha.df
  rw [e] at hdf
  exact hdf
end
theorem qk6 {P:Program} {S:Sub} (hS:S = qbg P) {x y:Code} {zs:List Code} {tm:Tr AV} {df:List ADf} {pm:APm} {rd:Bool} {h:Tr AObj} {n:Nat} {W:List Nat} {K:KE} (xs:List AV) (k sz:Nat) (ty:TypeId)
  (u1:Nat → List (Nat × AV)) (keep:List Nat) (ut:List (Nat × AV)) (hh:∀ i,hv h i = .hole) (hxs:Lives noL xs)
  (h1:S.code x ⟨tm,df,pm,rd,h,n,0,W⟩ fun e s' => @AEx.rec (fun _ => Prop) (∃ r,AtC tm rd W u1 xs k sz ty r s') (fun _ => False) False (fun _ => False) e)
  (h2:∀ C t,k ≤ C → TOf (xs ++ List.replicate (C * sz - k * sz) .unk) t → runs S zs ⟨tput (u1 C) (unkT tm),[],.no,rd,.node (.cells t (C * sz) ty) .nil .nil,1,0,W⟩ fun s' => AtF tm rd W keep ut s')
  (h3:S.code y ⟨tput (apL (kept tm keep) ut) (unkT tm),[],.no,rd,.nil,0,0,W⟩ K):S.code (.seq x (seqs zs y)) ⟨tm,df,pm,rd,h,n,0,W⟩ K :=by
 subst hS
 intro he
 obtain ⟨e,s1,k1,k2,k3⟩ :=h1 he
 cases e with
 |normal =>
  obtain ⟨r,ha⟩ :=k1
  obtain ⟨e3,s3,q1,q2,q3⟩ :=h3 qcr
  refine ⟨e3,s3,q1,⟨q2.he,q2.b,?_⟩,fun B H hH => ?_⟩
  ·have k':Kept 0 .nil W s3.h s3.wr :=q2.kept
   exact ⟨k'.sub,fun x hx _ => absurd hx (Nat.not_lt_zero _)⟩
  ·obtain ⟨H1,p1,p2⟩ :=k3 B H hH
   obtain ⟨H3,p5,p6⟩ :=q3 B AH.nil qc8.symm
   have hL:∀ i,¬ H.L i :=fun i hi => by
    have hi:H.o i ≠ .hole :=hi
    rw [hH] at hi
    exact hi (hh i)
   refine ⟨H3,p5,?_⟩
   refine SemT.ahead (its' :=[.code x] ++ [.code (seqs zs y)]) ?_ (fun _ => rfl) fun _ fr cs w k _ hm ht => qa5 (by
    simp only [List.cons_append,List.nil_append] at ht
    simp [stepG,stepG.exec,hm,ht])
   intro g fr cs w kk hr hm ht hro k' hk
   obtain ⟨g1,fr1,cs1,w1,a1,a2,a3,a4,a5,a6,a7⟩ :=p2 g fr cs w ([.code (seqs zs y)] ++ kk) hr hm (by rw [ht,List.append_assoc]) (fun e => by cases e) _ rfl
   have hob:H1.o r = .mrow xs k sz ty :=by rw [p1];exact ha.ob
   obtain ⟨t,htt⟩ :=ql5 _ (xs ++ List.replicate (g1.cc r * sz - k * sz) .unk) (Nat.le_refl _)
   obtain ⟨hle,b1⟩ :=ha.adapt hxs p1 a1 htt
   obtain ⟨s2,c1,c2,c3⟩ :=qmh zs _ _ (h2 (g1.cc r) t hle htt) (show HEnd (.node (.cells t (g1.cc r * sz) ty) .nil .nil) 1 from fun i hi => by
    cases i with
    |zero => exact absurd hi (Nat.not_succ_le_zero 0)
    |succ i => exact Tr.get_single _ i)
   obtain ⟨H2,d1,d2⟩ :=c3 B (oneC (.cells t (g1.cc r * sz) ty)) rfl
   obtain ⟨g2,fr2,cs2,w2,f1,f2,f3,f4,f5,f6,f7,f8⟩ :=d2 y (thC g1 r) fr1 cs1 w1 kk b1 a6.1 a6.2
   have z1 :=c1.adapt d1 f1
   obtain ⟨g3,fr3,cs3,w3,m1,m2,m3,m4,m5,m6,m7⟩ :=p6 (frzG g2 H2) fr2 cs2 w2 kk z1 f6 f7 (fun e => (show SameFr fr fr2 from ⟨f3.fn.trans a3.fn,f3.kind.trans a3.kind,f3.round.trans a3.round⟩).round.trans (hro e)) k' hk
   have o2 :=((a2.thC hL hob hxs htt).trans f2).frzNil hL
   refine ⟨g3,fr3,cs3,w3,m1,o2.trans m2,⟨m3.fn.trans (f3.fn.trans a3.fn),m3.kind.trans (f3.kind.trans a3.kind),m3.round.trans (f3.round.trans a3.round)⟩,?_,(fun _ => m5 fun l e => nomatch e),m6,a7.trans (f8.trans m7)⟩
   have q4:CsOk .no cs1 cs2 :=f4
   have q5:CsOk .no cs2 cs3 :=m4
   have q45:CsOk (AS.st s1 H1).pm cs1 cs3 :=by
    rw [show (AS.st s1 H1).pm = .no from ha.pm]
    exact q4.trans q5 fun h => h
   exact a4.trans q45 a5
 |exit id => exact k1.elim
 |ret => exact k1.elim
 |panic l => exact k1.elim
theorem FzV.ptr {o:Nat → AObj} {i n:Nat} {t:Tr AV} {ty:TypeId} {xs:List AV} (ho:o i = .cells t n ty) (hl:xs.length = n) (hx:∀ j,j < n → t.get j = xs[j]?) (hn:Lives noL xs):FzV o (.ptr i 0) (.lptr xs 0) :=by
 intro g B w H u hH hr hu
 subst hH
 simp only [VRel] at hu ⊢
 refine ⟨g.ob i,0,by simpa using hu,?_,?_⟩
 ·rw [qs9 hr ho,hl];omega
 ·refine LRel.of_get xs 0 fun j a hj => ?_
  have hjn:j < n :=by
   rw [← hl]
   exact (List.getElem?_eq_some_iff.1 hj).1
  obtain ⟨a',v,h1,h2,h3,_⟩ :=hr.cellAt ho hjn
  rw [hx j hjn,hj] at h1
  cases h1
  have hln:Live noL a :=Lives.mem xs a hn (List.mem_of_getElem? hj)
  exact ⟨v,by rw [Nat.zero_add];exact h2,FzV.no (o :=H.o) hln g B w H v rfl hr h3⟩
theorem FzV.slcL {o:Nat → AObj} {i n m m' cap:Nat} {t:Tr AV} {ty:TypeId} {xs:List AV} (ho:o i = .cells t n ty) (hl:xs.length ≤ n) (hx:∀ j,j < xs.length → t.get j = xs[j]?) (hn:Lives noL xs) (hm:m = m'):FzV o (.slc i 0 m cap) (.lst xs m' .no) :=by
 subst hm
 intro g B w H u hH hr hu
 subst hH
 simp only [VRel] at hu ⊢
 obtain ⟨c,hu,hc,_⟩ :=hu
 refine ⟨g.ob i,0,c,hu,hc,?_,?_,trivial⟩
 ·rw [qs9 hr ho];omega
 ·refine LRel.of_get xs 0 fun j a hj => ?_
  have hjn:j < xs.length :=(List.getElem?_eq_some_iff.1 hj).1
  obtain ⟨a',v,h1,h2,h3,_⟩ :=hr.cellAt ho (show j < n by omega)
  rw [hx j hjn,hj] at h1
  cases h1
  have hln:Live noL a :=Lives.mem xs a hn (List.mem_of_getElem? hj)
  exact ⟨v,by rw [Nat.zero_add];exact h2,FzV.no (o :=H.o) hln g B w H v rfl hr h3⟩
end
end Go.Abs

