/-
  Loops whose heads have lists of their own that may be begun anew: at each head such lists have the same numbers.
-/
import Derived.Test.YtnimgfkggbnjoaaGreatDoorXU4
/-! Loops whose heads have lists of their own that may be begun anew: at each head such lists have the same numbers. -/
namespace Go.Abs
open Go
noncomputable section
def rnG (g:Gh) (n:Nat) (rs:List Nat):Gh :=
 { g with cn :=fun i => if i < n then g.cn i else g.cn (rs.getD (i - n) 0),cb :=fun i => if i < n then g.cb i else g.cb (rs.getD (i - n) 0),cc :=fun i => if i < n then g.cc i else g.cc (rs.getD (i - n) 0) }
theorem qj7 (g:Gh) (n:Nat) (rs:List Nat) (w:World):Ext (fun i => i < n) g w (rnG g n rs) w :=
 ⟨fun _ _ => rfl,fun i hi => by show _ ≤ (if i < n then _ else _);rw [if_pos hi];exact Nat.le_refl _,fun i hi _ => ⟨if_pos hi,if_pos hi⟩,fun _ => Nat.le_refl _,fun _ _ _ => rfl⟩
def qeo:AObj → Prop
 | .chain _ _ _ => True
 | _ => False
theorem qeo.bk {x:AObj} (h:qeo x) (g:Gh) (i:Nat):g.bk x i = g.cb i :=by cases x <;> first|rfl|exact h.elim
theorem qeo.ne {x:AObj} (h:qeo x):x ≠ .hole :=fun e => by subst e;exact h
theorem qeo.bd {x:AObj} (h:qeo x) (n:Nat):OBd n x :=by cases x <;> first|trivial|exact h.elim
theorem qeo.lv {x:AObj} (h:qeo x) (L:Nat → Prop):qd6 L x :=by cases x <;> first|trivial|exact h.elim
inductive RnV (n:Nat) (rs:List Nat):AV → AV → Prop
 |wk {y a:AV} (h:WkV y a) (b:bd a ≤ n):RnV n rs y a
 |ch {xs:List AV} {k j c d:Nat} (hj:j < rs.length) (e:rs.getD j 0 = c) (e2:d = n + j) (b:bdl xs ≤ n):RnV n rs (.lst xs k (.ch c)) (.lst xs k (.ch d))
 |tr {y z a:AV} (h:WkV y z) (k:RnV n rs z a):RnV n rs y a
def zo (n:Nat) (ux:List AObj) (o:Nat → AObj) (i:Nat):AObj :=if i < n then o i else ux.getD (i - n) .hole
structure ZnR (n:Nat) (rs:List Nat) (ux:List AObj) (o:Nat → AObj):Prop where
 len:rs.length = ux.length
 nd:rs.Nodup
 ge:∀ j,j < rs.length → n ≤ rs.getD j 0
 ob:∀ j,j < rs.length → o (rs.getD j 0) = ux.getD j .hole
 ch:∀ j,j < rs.length → qeo (ux.getD j .hole)
section
variable {n:Nat} {rs:List Nat} {ux:List AObj} {g:Gh} {B:Nat} {w:World} {H:AH} {o:Nat → AObj}
theorem HRel.rn (h:HRel g B w H) (ho:∀ i,i < n → OWk (H.o i) (o i)) (hb:∀ i,i < n → OBd n (o i)) (hz:ZnR n rs ux H.o):HRel (rnG g n rs) B w ⟨n + ux.length,n + ux.length,zo n ux o⟩ :=by
 have nh:∀ i,i < n → o i ≠ .hole → H.o i ≠ .hole :=fun i hi hn e => hn ((ho i hi).hole.1 e)
 have out:∀ i,¬ i < n → ¬ i - n < rs.length → ux.getD (i - n) .hole = .hole :=fun i _ hi => by
  rw [List.getD_eq_getElem?_getD,List.getElem?_eq_none (by rw [← hz.len];omega)];rfl
 have bk1:∀ (x:AObj) i,i < n → (rnG g n rs).bk x i = g.bk x i :=fun x i hi => by cases x <;> first|rfl|exact if_pos hi
 have bk2:∀ i,¬ i < n → i - n < rs.length → (rnG g n rs).bk (ux.getD (i - n) .hole) i = g.bk (H.o (rs.getD (i - n) 0)) (rs.getD (i - n) 0) :=fun i hi hl => by
  rw [(hz.ch _ hl).bk,hz.ob _ hl,(hz.ch _ hl).bk];exact if_neg hi
 have inz:∀ i,¬ i < n → i - n < rs.length → H.o (rs.getD (i - n) 0) ≠ .hole :=fun i _ hl => by rw [hz.ob _ hl];exact (hz.ch _ hl).ne
 have zinj:∀ i j,i < rs.length → j < rs.length → rs.getD i 0 = rs.getD j 0 → i = j :=fun i j hi hj e => by
  rw [List.getD_eq_getElem?_getD,List.getD_eq_getElem?_getD,List.getElem?_eq_getElem hi,List.getElem?_eq_getElem hj] at e
  simp only [Option.getD_some] at e
  have hp :=List.pairwise_iff_getElem.1 hz.nd
  rcases Nat.lt_trichotomy i j with k | k | k
  ·exact absurd e (hp i j hi hj k)
  ·exact k
  ·exact absurd e.symm (hp j i hj hi k)
 constructor
 ·intro i hi
  simp only at hi
  show zo n ux o i = _
  unfold zo
  rw [if_neg (by omega)]
  exact out i (by omega) (by rw [hz.len];omega)
 ·intro i hi
  simp only at hi ⊢
  unfold zo at hi ⊢
  by_cases e:i < n
  ·rw [if_pos e] at hi ⊢;rw [bk1 _ _ e,(ho i e).bk];exact h.ge i (nh i e hi)
  ·rw [if_neg e] at hi ⊢
   by_cases l:i - n < rs.length
   ·rw [bk2 i e l];exact h.ge _ (inz i e l)
   ·exact absurd (out i e l) hi
 ·intro i j hi hj
  simp only at hi hj ⊢
  unfold zo at hi hj ⊢
  by_cases e:i < n
  ·by_cases e2:j < n
   ·rw [if_pos e] at hi ⊢;rw [if_pos e2] at hj ⊢
    rw [bk1 _ _ e,bk1 _ _ e2,(ho i e).bk,(ho j e2).bk];exact h.inj i j (nh i e hi) (nh j e2 hj)
   ·rw [if_pos e] at hi ⊢;rw [if_neg e2] at hj ⊢
    by_cases l:j - n < rs.length
    ·rw [bk1 _ _ e,bk2 j e2 l,(ho i e).bk]
     intro k
     have :=h.inj i _ (nh i e hi) (inz j e2 l) k
     have :=hz.ge _ l
     omega
    ·exact absurd (out j e2 l) hj
  ·by_cases l:i - n < rs.length
   ·by_cases e2:j < n
    ·rw [if_neg e] at hi ⊢;rw [if_pos e2] at hj ⊢
     rw [bk2 i e l,bk1 _ _ e2,(ho j e2).bk]
     intro k
     have :=h.inj _ j (inz i e l) (nh j e2 hj) k
     have :=hz.ge _ l
     omega
    ·rw [if_neg e] at hi ⊢;rw [if_neg e2] at hj ⊢
     by_cases l2:j - n < rs.length
     ·rw [bk2 i e l,bk2 j e2 l2]
      intro k
      have :=zinj _ _ l l2 (h.inj _ _ (inz i e l) (inz j e2 l2) k)
      omega
     ·exact absurd (out j e2 l2) hj
   ·rw [if_neg e] at hi;exact absurd (out i e l) hi
 ·intro i
  simp only
  unfold zo
  by_cases e:i < n
  ·rw [if_pos e]
   by_cases hh:o i = .hole
   ·rw [hh];trivial
   ·have h1 :=(ho i e).rel (h.rel i)
    refine h1.ext (qj7 g n rs w) (qd6.mono (fun _ k => k.2) (qd6.below ((ho i e).live (h.live i)) (hb i e))) e rfl rfl (if_pos e)
  ·rw [if_neg e]
   by_cases l:i - n < rs.length
   ·have h1 :=h.rel (rs.getD (i - n) 0)
    rw [hz.ob _ l] at h1
    have h2 :=hz.ch _ l
    revert h1 h2
    cases ux.getD (i - n) .hole <;> intro h1 h2 <;> first|exact h2.elim | skip
    obtain ⟨arr,k1,k2,k3,k4,k5⟩ :=h1
    have e1:(rnG g n rs).cb i = g.cb (rs.getD (i - n) 0) :=if_neg e
    have e2:(rnG g n rs).cc i = g.cc (rs.getD (i - n) 0) :=if_neg e
    have e3:(rnG g n rs).cn i = g.cn (rs.getD (i - n) 0) :=if_neg e
    refine ⟨arr,by rw [e1];exact k1,by rw [e1];exact k2,by rw [e2];exact k3,by rw [e2];exact k4,by rw [e3];exact k5⟩
   ·rw [out i e l];trivial
 ·intro i
  simp only
  unfold zo
  by_cases e:i < n
  ·rw [if_pos e]
   refine qd6.mono (fun j hj => ?_) (qd6.below ((ho i e).live (h.live i)) (hb i e))
   show (if j < n then o j else _) ≠ .hole
   rw [if_pos hj.2];exact fun k => hj.1 ((ho j hj.2).hole.2 k)
  ·rw [if_neg e]
   by_cases l:i - n < rs.length
   ·exact (hz.ch _ l).lv _
   ·rw [out i e l];trivial
 ·intro i
  simp only
  unfold zo
  by_cases e:i < n
  ·rw [if_pos e];exact (hb i e).mono (by omega)
  ·rw [if_neg e]
   by_cases l:i - n < rs.length
   ·exact (hz.ch _ l).bd _
   ·rw [out i e l];trivial
 ·exact h.imz
 ·exact h.hB
 ·exact h.gl
theorem Out.rn {g0:Gh} {w0:World} {H0:AH} (h:Out g0 B w0 H0 g w H) (ho:∀ i,i < n → OWk (H.o i) (o i)) (hb:∀ i,i < n → OBd n (o i)) (hz:ZnR n rs ux H.o) (hL:∀ i,H0.L i → i < n):Out g0 B w0 H0 (rnG g n rs) w ⟨n + ux.length,n + ux.length,zo n ux o⟩ :=by
 refine ⟨h.rel.rn ho hb hz,h.ext.trans ((qj7 g n rs w).mono hL),h.below,fun i hi => ?_,h.frame,fun k hk => ?_⟩
 ·show zo n ux o i ≠ .hole
  unfold zo
  rw [if_pos (hL i hi)]
  exact fun e => h.L i hi ((ho i (hL i hi)).hole.2 e)
 ·obtain ⟨i,hi,e⟩ :=hk
  simp only at hi e
  unfold zo at hi e
  by_cases hlt:i < n
  ·rw [if_pos hlt] at hi e
   have e3:(rnG g n rs).bk (o i) i = g.bk (o i) i :=by cases o i <;> first|rfl|exact if_pos hlt
   rw [e3,(ho i hlt).bk] at e
   exact h.own k ⟨i,fun k => hi ((ho i hlt).hole.1 k),e⟩
  ·rw [if_neg hlt] at hi e
   by_cases l:i - n < rs.length
   ·have e3:(rnG g n rs).bk (ux.getD (i - n) .hole) i = g.bk (H.o (rs.getD (i - n) 0)) (rs.getD (i - n) 0) :=by
     rw [(hz.ch _ l).bk,hz.ob _ l,(hz.ch _ l).bk];exact if_neg hlt
    exact h.own k ⟨_,by rw [hz.ob _ l];exact (hz.ch _ l).ne,by rw [← e3];exact e⟩
   ·exact absurd (by rw [List.getD_eq_getElem?_getD,List.getElem?_eq_none (by rw [← hz.len];omega)];rfl) hi
theorem RnV.rel {L:Nat → Prop} {y a:AV} {u:Value} (k:RnV n rs y a) (hl:Live L y) (hv:VRel g w y u):VRel (rnG g n rs) w a u :=by
 induction k with
 |tr h _ ih => exact ih (h.lv _ hl) (h.wk _ _ _ hv)
 |wk h b => exact VRel.ext (qj7 g n rs w) _ u (Live.mono (fun _ k => k.2) _ (Live.below _ (h.lv _ hl) b)) (h.wk _ _ _ hv)
 | @ch xs k j c d hj e e2 b =>
  subst e e2
  simp only [VRel] at hv ⊢
  obtain ⟨bb,off,cap,h1,h2,h3,h4,h5⟩ :=hv
  have hx :=VRel.ext (qj7 g n rs w) (.lst xs k .no) u (Live.mono (fun _ k => k.2) _ (Live.below (.lst xs k .no) (L :=L) ⟨hl.1,fun _ e => nomatch e⟩ b)) (by simp only [VRel];exact ⟨bb,off,cap,h1,h2,h3,h4,trivial⟩)
  simp only [VRel] at hx
  obtain ⟨bb',off',cap',k1,k2,k3,k4,_⟩ :=hx
  rw [h1] at k1
  cases k1
  refine ⟨bb,off,cap,h1,h2,h3,k4,?_⟩
  have e1:(rnG g n rs).cb (n + j) = g.cb (rs.getD j 0) :=by show (if n + j < n then _ else _) = _;rw [if_neg (by omega),Nat.add_sub_cancel_left]
  have e2:(rnG g n rs).cc (n + j) = g.cc (rs.getD j 0) :=by show (if n + j < n then _ else _) = _;rw [if_neg (by omega),Nat.add_sub_cancel_left]
  have e3:(rnG g n rs).cn (n + j) = g.cn (rs.getD j 0) :=by show (if n + j < n then _ else _) = _;rw [if_neg (by omega),Nat.add_sub_cancel_left]
  show k ≤ (rnG g n rs).cn (n + j) ∧ (k = (rnG g n rs).cn (n + j) → bb = (rnG g n rs).cb (n + j) ∧ off = 0 ∧ cap = (rnG g n rs).cc (n + j))
  rw [e1,e2,e3]
  exact h5
end
/-! ### The head -/
def TmR (n:Nat) (rs:List Nat) (tm:Tr AV) (l:List (Nat × AV)):Prop :=
 @List.rec (Nat × AV) (fun _ => Prop) True (fun p _ ih => @Prod.rec Nat AV (fun _ => Prop) (fun i x => (∃ y,tm.get i = some y ∧ RnV n rs y x) ∧ ih) p) l
theorem TmR.mem {n:Nat} {rs:List Nat} {tm:Tr AV}:∀ {l:List (Nat × AV)},TmR n rs tm l → ∀ j a,(j,a) ∈ l → ∃ y,tm.get j = some y ∧ RnV n rs y a
 |(i,x) :: l,h,j,a,hm => by
  rcases List.mem_cons.1 hm with e | hm
  ·cases e;exact h.1
  ·exact TmR.mem h.2 j a hm
def ZnL (n:Nat) (o:Tr AObj) (rs:List Nat):List AObj → Prop :=
 @List.rec Nat (fun _ => List AObj → Prop) (fun ux => @List.rec AObj (fun _ => Prop) True (fun _ _ _ => False) ux)
  (fun c _ ih ux => @List.rec AObj (fun _ => Prop) False (fun x r _ => (n ≤ c ∧ hv o c = x ∧ qeo x) ∧ ih r) ux) rs
theorem ZnL.get {n:Nat} {o:Tr AObj}:∀ {rs:List Nat} {ux:List AObj},ZnL n o rs ux → rs.length = ux.length ∧ ∀ j,j < rs.length → n ≤ rs.getD j 0 ∧ hv o (rs.getD j 0) = ux.getD j .hole ∧ qeo (ux.getD j .hole)
 | [],[],_ => ⟨rfl,fun j h => absurd h (Nat.not_lt_zero _)⟩
 | [],_ :: _,h => h.elim
 | _ :: _,[],h => h.elim
 |c :: rs,x :: ux,h => by
  obtain ⟨h1,h2⟩ :=ZnL.get h.2
  refine ⟨by rw [List.length_cons,List.length_cons,h1],fun j hj => ?_⟩
  cases j with
  |zero => exact h.1
  |succ j =>
   rw [List.length_cons] at hj
   exact h2 j (by omega)
def ZxL (t:Tr AObj) (n:Nat) (ux:List AObj):Prop :=@List.rec AObj (fun _ => Nat → Prop) (fun _ => True) (fun x _ ih n => t.get n = some x ∧ ih (Nat.succ n)) ux n
theorem ZxL.get {t:Tr AObj}:∀ {ux:List AObj} {n:Nat},ZxL t n ux → ∀ j,j < ux.length → t.get (n + j) = some (ux.getD j .hole)
 |x :: ux,n,h,j,hj => by
  cases j with
  |zero => exact h.1
  |succ j =>
   rw [List.length_cons] at hj
   have :=ZxL.get h.2 j (by omega)
   rw [show n + (j + 1) = Nat.succ n + j by show _ = n + 1 + j;omega]
   exact this
theorem Dm.relG {g:Gh} {w:World} {L L':Nat → Prop} {m n:Nat} {rs:List Nat}:∀ {D:List ADf} {ds:List Deferred},Dm m D → (∀ i,i < m → L i → L' i) → qhn g w L D ds → qhn (rnG g n rs) w L' D ds
 | [],_,_,_,h => h
 | .call _ _ :: _,_,h,_,_ => h.elim
 | .mark o :: l,ds,h,hl,hr => by
  obtain ⟨ds',e1,h1,h2⟩ :=hr
  exact ⟨ds',e1,hl o h.1 h1,Dm.relG h.2 hl h2⟩
structure AtR (D:List ADf) (tm:Tr AV) (rd:Bool) (h:Tr AObj) (n b:Nat) (W:List Nat) (keep:List Nat) (ut:List (Nat × AV)) (uh:List (Nat × AObj)) (ux:List AObj) (rs:List Nat) (s':AS):Prop where
 df:s'.df = D
 pm:s'.pm = .no
 rd:s'.rd = rd
 bq:s'.b = b
 wr:s'.wr = W
 dom:unkT s'.tm = unkT tm
 nd:rs.Nodup
 tmr:TmR n rs s'.tm (apL (kept tm keep) ut)
 ob:TrIw b W s'.h 0 1 (tput uh h)
 bd:BdL n uh
 full:qkw (tput uh h) n = true
 zn:ZnL n s'.h rs ux
 zx:ZxL (appT ux n (tput uh h)) n ux
section
variable {D:List ADf} {tm:Tr AV} {rd:Bool} {h:Tr AObj} {n b:Nat} {W:List Nat} {s':AS} {keep:List Nat} {ut:List (Nat × AV)} {uh:List (Nat × AObj)} {ux:List AObj} {rs:List Nat}
theorem AtR.znr (ha:AtR D tm rd h n b W keep ut uh ux rs s'):ZnR n rs ux (hv s'.h) :=
 ⟨ha.zn.get.1,ha.nd,fun j hj => (ha.zn.get.2 j hj).1,fun j hj => (ha.zn.get.2 j hj).2.1,fun j hj => (ha.zn.get.2 j hj).2.2⟩
theorem AtR.old (hB:TrBd n h) (ha:AtR D tm rd h n b W keep ut uh ux rs s'):∀ i,i < n → ∃ x,(tput uh h).get i = some x ∧ (∃ y,s'.h.get i = some y ∧ atR b W i y x) ∧ BdO n x :=fun i hi => by
 obtain ⟨x,hx⟩ :=qkw.lt ha.full i hi
 refine ⟨x,hx,?_,?_⟩
 ·obtain ⟨y,k1,k2⟩ :=TrIw.get i _ _ 0 1 ha.ob x hx
  rw [Nat.zero_add,Nat.one_mul] at k2
  exact ⟨y,k1,k2⟩
 ·rcases (qez _ _ _ _ hx).2 with k | ⟨_,k⟩
  ·exact ha.bd.mem i x k
  ·exact TrBd.get (pathOf i) h hB x k
theorem qo9:∀ (xs:List AObj) (n:Nat) (h:Tr AObj) (i:Nat),i < n → (appT xs n h).get i = h.get i
 | [],_,_,_,_ => rfl
 |x :: xs,n,h,i,hi => by
  have :=qo9 xs (n + 1) (tadd (pathOf n) h x) i (by omega)
  refine this.trans ?_
  unfold Tr.get
  rw [qh9 _ _ _ fun e => by have :=qeg _ _ e;omega]
theorem qu2 (_he:HEnd h n) (hx:∀ j,j < ux.length → (appT ux n (tput uh h)).get (n + j) = some (ux.getD j .hole)):hv (qgv D tm rd h n b W keep ut uh ux).h = zo n ux (hv (tput uh h)) :=by
 funext i
 show hv (appT ux n (tput uh h)) i = _
 unfold zo
 by_cases hi:i < n
 ·rw [if_pos hi]
  unfold hv
  rw [qo9 ux n _ i hi]
 ·rw [if_neg hi]
  by_cases hj:i - n < ux.length
  ·have :=hx (i - n) hj
   rw [show n + (i - n) = i by omega] at this
   unfold hv
   rw [this]
  ·have he2 :=qlt (D :=D) (tm :=tm) (rd :=rd) (b :=b) (W :=W) (keep :=keep) (ut :=ut) (uh :=uh) (ux :=ux) _he
   have :=he2.hole (i :=i) (by show endN ux n ≤ i;rw [qd5];omega)
   rw [List.getD_eq_getElem?_getD,List.getElem?_eq_none (by omega)]
   exact this
theorem AtR.tms (ha:AtR D tm rd h n b W keep ut uh ux rs s'):∀ i a,(qgv D tm rd h n b W keep ut uh ux).tm.get i = some a → ∃ y,s'.tm.get i = some y ∧ RnV n rs y a :=by
 intro i a hi
 obtain ⟨⟨y,h1⟩,h2⟩ :=qez _ _ _ _ hi
 rcases h2 with h2 | ⟨_,h3⟩
 ·exact ha.tmr.mem i a h2
 ·rw [qdb] at h3
  have hd:(s'.tm.get i).map (fun _ => AV.unk) = (tm.get i).map fun _ => AV.unk :=by rw [← qdb,← qdb,ha.dom]
  cases hs:tm.get i with
  |none => rw [hs] at h3;cases h3
  |some z =>
   rw [hs] at h3 hd
   simp only [Option.map_some,Option.some.injEq] at h3
   subst h3
   cases hs':s'.tm.get i with
   |none => rw [hs'] at hd;cases hd
   |some z' => exact ⟨z',rfl,.wk (WkV.unk z') (Nat.zero_le _)⟩
theorem AtR.adapt (hB:TrBd n h) (hD:Dm n D) (ha:AtR D tm rd h n b W keep ut uh ux rs s') {g g0:Gh} {B:Nat} {w w0:World} {H H0:AH} {fr:Frame} {cs:List Frame} (hH:H.o = hv s'.h) (hL:∀ i,H0.L i → i < n)
  (hr:FrRel g B w (s'.st H) fr cs) (ho:Out g0 B w0 H0 g w H) :
  FrRel (rnG g n rs) B w ((qgv D tm rd h n b W keep ut uh ux).st ⟨n + ux.length,n + ux.length,zo n ux (hv (tput uh h))⟩) fr cs ∧ Out g0 B w0 H0 (rnG g n rs) w ⟨n + ux.length,n + ux.length,zo n ux (hv (tput uh h))⟩ :=by
 have hold :=ha.old hB
 have hok:∀ i,i < n → OWk (H.o i) (hv (tput uh h) i) ∧ OBd n (hv (tput uh h) i) :=fun i hi => by
  obtain ⟨x,k1,⟨y,k2,k3⟩,k4⟩ :=hold i hi
  rw [hH]
  unfold hv
  rw [k1,k2]
  exact ⟨k3.1,k4.ok⟩
 have hz:ZnR n rs ux H.o :=by rw [hH];exact ha.znr
 have hrel :=hr.h.rn (fun i hi => (hok i hi).1) (fun i hi => (hok i hi).2) hz
 refine ⟨⟨hrel,⟨fun t a ht => ?_,fun t a ht => ?_⟩,?_,trivial,fun e => hr.rd (by show s'.rd = false;rw [ha.rd];exact e)⟩,ho.rn (fun i hi => (hok i hi).1) (fun i hi => (hok i hi).2) hz hL⟩
 ·obtain ⟨y,k1,k2⟩ :=ha.tms t a ht
  have :=hr.tm.rel t y k1
  exact ⟨this.1,k2.rel (hr.tm.live t y k1) this.2⟩
 ·obtain ⟨y,k1,k2⟩ :=ha.tms t a ht
  have hl :=hr.tm.live t y k1
  have lold:∀ i,H.L i ∧ i < n → zo n ux (hv (tput uh h)) i ≠ .hole :=fun i hi => by
   unfold zo
   rw [if_pos hi.2]
   exact fun e => hi.1 (((hok i hi.2).1).hole.2 e)
  clear k1 ht
  induction k2 with
  |tr h _ ih => exact ih (h.lv _ hl)
  |wk hw hb => exact Live.mono lold _ (Live.below _ (hw.lv _ hl) hb)
  | @ch xs k j c d hj e e2 b =>
   subst e e2
   refine ⟨Lives.mono lold xs (Lives.below xs hl.1 b),fun c e => ?_⟩
   cases e
   show zo n ux _ (n + j) ≠ .hole
   unfold zo
   rw [if_neg (by omega),Nat.add_sub_cancel_left]
   exact (hz.ch j hj).ne
 ·have hdf :=hr.df
  have e:(s'.st H).df = D :=ha.df
  rw [e] at hdf
  exact Dm.relG hD (fun i hi hl => by
   show zo n ux _ i ≠ .hole
   unfold zo
   rw [if_pos hi]
   exact fun e => hl (((hok i hi).1).hole.2 e)) hdf
theorem qcp {E:Env} (hE:E.Ok) {S:Sub} (hS:S = qdy E.P) {A:Type} {c:Code} {f:AS → KE → Prop} {tm:Tr AV} {df:List ADf} {pm:APm} {rd:Bool} {h:Tr AObj} {n b:Nat} {W0:List Nat} {K:KE}
  (W:List Nat) (hW:∀ x,x ∈ W0 → x ∈ W) (keep:List Nat) (ut:A → List (Nat × AV)) (uh:A → List (Nat × AObj)) (ux:A → List AObj) (I:A → Prop) (m:A → Nat) (a0:A) (hbn:b ≤ n) (hD:Dm n df) (hu0:ux a0 = []) (hB:TrBd n h)
  (h0:AtR df tm rd h n b W keep (ut a0) (uh a0) (ux a0) [] ⟨tm,df,pm,rd,h,n,b,W⟩) (hI:I a0)
  (step:∀ a,I a → ∀ N,N = endN (ux a) n → exC c E S ⟨tput (apL (kept tm keep) (ut a)) (unkT tm),df,.no,rd,appT (ux a) n (tput (uh a) h),N,b,W⟩ fun e s' => @AEx.rec (fun _ => Prop)
   (∃ a' rs,I a' ∧ m a' < m a ∧ AtR df tm rd h n b W keep (ut a') (uh a') (ux a') rs s')
   (fun id => K (.exit id) s') (K .ret s') (fun l => K (.panic l) s') e):S.loop c f ⟨tm,df,pm,rd,h,n,b,W0⟩ K :=by
 subst hS
 intro he
 simp only at he
 -- the state at the head, with a heap
 let hd:A → St :=fun a => (qgv df tm rd h n b W keep (ut a) (uh a) (ux a)).st ⟨n + (ux a).length,n + (ux a).length,zo n (ux a) (hv (tput (uh a) h))⟩
 let its:List Item :=[.code c,.inLoop c]
 let Pre:Nat → AH → A → Prop :=fun B H a => ∀ g0 fr0 cs0 w0 k,FrRel g0 B w0 ((⟨tm,df,pm,rd,h,n,b,W0⟩ : AS).st H) fr0 cs0 → fr0.mode = .run → fr0.todo = its ++ k →
  ∃ g fr cs w,FrRel g B w (hd a) fr cs ∧ Out g0 B w0 H g w (hd a).H ∧ SameFr fr0 fr ∧ CsOk pm cs0 cs ∧ fr.mode = .run ∧ fr.todo = its ++ k ∧ Steps E.P (lone fr0 cs0 w0) (lone fr cs w)
 have hpm:pm = .no :=h0.pm
 have main:∀ (k:Nat) (a:A),I a → m a < k → (∀ j,j < (ux a).length → (appT (ux a) n (tput (uh a) h)).get (n + j) = some ((ux a).getD j .hole)) → (∀ B H,H.o = hv h → Pre B H a) → (∀ x,x < b → x ∉ W → hv (tput (uh a) h) x = hv h x) →
   ∃ e s',K e s' ∧ Aft ⟨tm,df,pm,rd,h,n,b,W0⟩ s' ∧ ∀ (B:Nat) (H:AH),H.o = hv h → ∃ H':AH,H'.o = hv s'.h ∧ SemL E.P B c ((⟨tm,df,pm,rd,h,n,b,W0⟩ : AS).st H) e (s'.st H') :=by
  intro k
  induction k with
  |zero => intro a _ h;omega
  |succ k ih =>
   intro a hIa hm hx hpre hsm
   have hea :=qlt (D :=df) (tm :=tm) (rd :=rd) (b :=b) (W :=W) (keep :=keep) (ut :=ut a) (uh :=uh a) (ux :=ux a) he
   have hhv :=qu2 (D :=df) (tm :=tm) (rd :=rd) (b :=b) (W :=W) (keep :=keep) (ut :=ut a) (uh :=uh a) (ux :=ux a) he hx
   obtain ⟨e,s1,h1,h2,h3⟩ :=qjv hE (qdw E.P) c _ _ (step a hIa _ rfl) hea
   have hkept:∀ x,x < b → x ∉ s1.wr → hv s1.h x = hv h x :=fun x hx hn => by
    have k1:Kept b (qgv df tm rd h n b W keep (ut a) (uh a) (ux a)).h W s1.h s1.wr :=h2.kept
    rw [k1.same x hx hn,hhv]
    unfold zo
    rw [if_pos (by omega)]
    exact hsm x hx fun h => hn (k1.sub x h)
   have haft:Aft ⟨tm,df,pm,rd,h,n,b,W0⟩ s1 :=⟨h2.he,h2.b,fun x hx => (by
    have k1:Kept b (qgv df tm rd h n b W keep (ut a) (uh a) (ux a)).h W s1.h s1.wr :=h2.kept
    exact k1.sub x (hW x hx)),hkept⟩
   by_cases hn:e = .normal
   ·subst hn
    obtain ⟨a',rs,hIa',hlt,hah⟩ :=h1
    refine ih a' hIa' (by omega) hah.zx.get (fun B H hH => ?_) fun x hx hn => ?_
    ·intro g0 fr0 cs0 w0 kk hr0 hm0 ht0
     obtain ⟨g,fr,cs,w,q1,q2,q3,q4,q5,q6,q7⟩ :=hpre B H hH g0 fr0 cs0 w0 kk hr0 hm0 ht0
     obtain ⟨H1,k1,k2⟩ :=h3 B ⟨n + (ux a).length,n + (ux a).length,zo n (ux a) (hv (tput (uh a) h))⟩ hhv.symm
     obtain ⟨g',fr',cs',w',r1,r2,r3,r4,r5,r6,r7⟩ :=k2 g fr cs w (.inLoop c :: kk) q1 q5 q6 (fun e => by cases e) _ rfl
     have hL:∀ i,H.L i → i < n :=fun i hi => by
      apply Nat.lt_of_not_le
      intro hle
      have hi:H.o i ≠ .hole :=hi
      rw [hH] at hi
      exact hi (he.hole hle)
     obtain ⟨z1,z2⟩ :=hah.adapt hB hD k1 hL r1 (q2.trans r2)
     refine ⟨_,{ fr' with todo :=its ++ kk },cs',w',z1.todo _,z2,⟨r3.fn.trans q3.fn,r3.kind.trans q3.kind,r3.round.trans q3.round⟩,?_,r6.1,rfl,q7.trans (r7.trans (qcj ?_))⟩
     ·subst hpm
      have e1:cs' = cs :=r4
      rw [e1];exact q4
     ·simp [stepG,stepG.exec,r6.1,r6.2,its]
    ·obtain ⟨y,k1,⟨z,k2,k3⟩,_⟩ :=hah.old hB x (by omega)
     have e1:hv (tput (uh a') h) x = hv s1.h x :=by
      unfold hv
      rw [k1,k2]
      exact (k3.2 hx hn).symm
     rw [e1]
     exact hkept x hx (by rw [hah.wr];exact hn)
   ·have plain:K e s1 → ∃ e s',K e s' ∧ Aft ⟨tm,df,pm,rd,h,n,b,W0⟩ s' ∧ ∀ (B:Nat) (H:AH),H.o = hv h → ∃ H':AH,H'.o = hv s'.h ∧ SemL E.P B c ((⟨tm,df,pm,rd,h,n,b,W0⟩ : AS).st H) e (s'.st H') :=fun hk => by
     refine ⟨e,s1,hk,haft,fun B H hH => ?_⟩
     obtain ⟨H1,k1,k2⟩ :=h3 B ⟨n + (ux a).length,n + (ux a).length,zo n (ux a) (hv (tput (uh a) h))⟩ hhv.symm
     have k3 :=SemL.stop k2 hn
     refine ⟨H1,k1,fun g0 fr0 cs0 w0 kk hr0 hm0 ht0 hro k' hk' => ?_⟩
     obtain ⟨g,fr,cs,w,q1,q2,q3,q4,q5,q6,q7⟩ :=hpre B H hH g0 fr0 cs0 w0 kk hr0 hm0 ht0
     obtain ⟨g',fr',cs',w',r1,r2,r3,r4,r5,r6,r7⟩ :=k3 g fr cs w kk q1 q5 q6 (fun e => q3.round.trans (hro e)) k' hk'
     refine ⟨g',fr',cs',w',r1,q2.trans r2,q3.trans r3,?_,?_,r6,q7.trans r7⟩
     ·subst hpm
      have e1:cs = cs0 :=q4
      have e2:cs' = cs :=r4
      show cs' = cs0
      rw [e2,e1]
     ·subst hpm
      exact r5
    cases e with
    |normal => exact absurd rfl hn
    |ret => exact plain h1
    |panic l => exact plain h1
    |exit id => exact plain h1
 refine main (m a0 + 1) a0 hI (by omega) (by rw [hu0];intro j hj;exact absurd hj (Nat.not_lt_zero _)) (fun B H hH => ?_) fun x hx hn => ?_
 ·intro g0 fr0 cs0 w0 kk hr0 hm0 ht0
  have hL:∀ i,H.L i → i < n :=fun i hi => by
   apply Nat.lt_of_not_le
   intro hle
   have hi:H.o i ≠ .hole :=hi
   rw [hH] at hi
   exact hi (he.hole hle)
  obtain ⟨z1,z2⟩ :=h0.adapt hB hD hH hL hr0 (Out.refl hr0.h)
  exact ⟨_,fr0,cs0,w0,z1,z2,⟨rfl,rfl,rfl⟩,CsOk.refl _ _ _ hr0.pm,hm0,ht0,.refl _ _⟩
 ·obtain ⟨y,k1,⟨z,k2,k3⟩,_⟩ :=h0.old hB x (by omega)
  unfold hv
  rw [k1,k2]
  exact (k3.2 hx hn).symm
end
theorem zhr {D:List ADf} {tm:Tr AV} {rd:Bool} {h:Tr AObj} {n b:Nat} {W:List Nat} {keep:List Nat} {ut:List (Nat × AV)} {uh:List (Nat × AObj)} {ux:List AObj} {rs:List Nat} {s':AS} (z1:s'.df = D ∧ s'.pm = .no ∧ s'.rd = rd ∧ s'.b = b ∧ s'.wr = W ∧ unkT s'.tm = unkT tm := by exact ⟨rfl,rfl,rfl,rfl,rfl,rfl⟩) (z2:rs.Nodup := by decide) (z3:TmR n rs s'.tm (apL (kept tm keep) ut) := by repeat' first|exact trivial|exact rfl|exact ⟨_,rfl,RnV.wk (WkV.refl _) (Nat.zero_le _)⟩|exact ⟨_,rfl,RnV.wk (WkV.refl _) (kle rfl)⟩|exact ⟨_,rfl,RnV.wk (WkV.refl _) bdq⟩|exact ⟨_,rfl,RnV.wk (WkV.refl _) (bd_svC _ (by decide))⟩|exact ⟨_,rfl,RnV.wk (WkV.int ‹_›) (Nat.zero_le _)⟩|exact TrIw.refl _ _ _ _ _|exact OWk.same _|exact OWk.loop _ _ _ _ _ _ _ (by repeat' (first|exact trivial|exact WkV.refl _|exact WkV.unk _|apply And.intro))|exact Nat.zero_le _|exact kle rfl|exact bdq|exact mxI rfl|exact mxS rfl|exact bd_ljC _ (by decide)|exact bd_giC _ (by decide)|exact bd_svC _ (by decide)|exact bd_lkC _ (by decide)|apply And.intro|exact ⟨_,rfl,qy4 hi2 hq⟩|exact ⟨_,rfl,qz3 hi2 hq⟩|exact ⟨_,rfl,qy3 hi2 hq⟩|exact ⟨_,rfl,qz2 hi2 hq⟩) (z4:TrIw b W s'.h 0 1 (tput uh h) := by repeat' first|exact trivial|exact rfl|exact ⟨_,rfl,RnV.wk (WkV.refl _) (Nat.zero_le _)⟩|exact ⟨_,rfl,RnV.wk (WkV.refl _) (kle rfl)⟩|exact ⟨_,rfl,RnV.wk (WkV.refl _) bdq⟩|exact ⟨_,rfl,RnV.wk (WkV.refl _) (bd_svC _ (by decide))⟩|exact ⟨_,rfl,RnV.wk (WkV.int ‹_›) (Nat.zero_le _)⟩|exact TrIw.refl _ _ _ _ _|exact OWk.same _|exact OWk.loop _ _ _ _ _ _ _ (by repeat' (first|exact trivial|exact WkV.refl _|exact WkV.unk _|apply And.intro))|exact Nat.zero_le _|exact kle rfl|exact bdq|exact mxI rfl|exact mxS rfl|exact bd_ljC _ (by decide)|exact bd_giC _ (by decide)|exact bd_svC _ (by decide)|exact bd_lkC _ (by decide)|apply And.intro|exact oO|exact qe3 _ _ (by decide)|exact qc4 (qa3 _) (by decide)|exact qfp _ _ (by decide)) (z5:BdL n uh := by repeat' first|exact trivial|exact rfl|exact ⟨_,rfl,RnV.wk (WkV.refl _) (Nat.zero_le _)⟩|exact ⟨_,rfl,RnV.wk (WkV.refl _) (kle rfl)⟩|exact ⟨_,rfl,RnV.wk (WkV.refl _) bdq⟩|exact ⟨_,rfl,RnV.wk (WkV.refl _) (bd_svC _ (by decide))⟩|exact ⟨_,rfl,RnV.wk (WkV.int ‹_›) (Nat.zero_le _)⟩|exact TrIw.refl _ _ _ _ _|exact OWk.same _|exact OWk.loop _ _ _ _ _ _ _ (by repeat' (first|exact trivial|exact WkV.refl _|exact WkV.unk _|apply And.intro))|exact Nat.zero_le _|exact kle rfl|exact bdq|exact mxI rfl|exact mxS rfl|exact bd_ljC _ (by decide)|exact bd_giC _ (by decide)|exact bd_svC _ (by decide)|exact bd_lkC _ (by decide)|apply And.intro) (z6:qkw (tput uh h) n = true := by kernel_rfl) (z7:ZnL n s'.h rs ux := by repeat' first|exact trivial|exact rfl|exact ⟨_,rfl,RnV.wk (WkV.refl _) (Nat.zero_le _)⟩|exact ⟨_,rfl,RnV.wk (WkV.refl _) (kle rfl)⟩|exact ⟨_,rfl,RnV.wk (WkV.refl _) bdq⟩|exact ⟨_,rfl,RnV.wk (WkV.refl _) (bd_svC _ (by decide))⟩|exact ⟨_,rfl,RnV.wk (WkV.int ‹_›) (Nat.zero_le _)⟩|exact TrIw.refl _ _ _ _ _|exact OWk.same _|exact OWk.loop _ _ _ _ _ _ _ (by repeat' (first|exact trivial|exact WkV.refl _|exact WkV.unk _|apply And.intro))|exact Nat.zero_le _|exact kle rfl|exact bdq|exact mxI rfl|exact mxS rfl|exact bd_ljC _ (by decide)|exact bd_giC _ (by decide)|exact bd_svC _ (by decide)|exact bd_lkC _ (by decide)|apply And.intro|exact oO|exact qe3 _ _ (by decide)|exact qc4 (qa3 _) (by decide)|exact qfp _ _ (by decide)) (z8:ZxL (appT ux n (tput uh h)) n ux := by repeat' first|exact trivial|exact rfl|exact ⟨_,rfl,RnV.wk (WkV.refl _) (Nat.zero_le _)⟩|exact ⟨_,rfl,RnV.wk (WkV.refl _) (kle rfl)⟩|exact ⟨_,rfl,RnV.wk (WkV.refl _) bdq⟩|exact ⟨_,rfl,RnV.wk (WkV.refl _) (bd_svC _ (by decide))⟩|exact ⟨_,rfl,RnV.wk (WkV.int ‹_›) (Nat.zero_le _)⟩|exact TrIw.refl _ _ _ _ _|exact OWk.same _|exact OWk.loop _ _ _ _ _ _ _ (by repeat' (first|exact trivial|exact WkV.refl _|exact WkV.unk _|apply And.intro))|exact Nat.zero_le _|exact kle rfl|exact bdq|exact mxI rfl|exact mxS rfl|exact bd_ljC _ (by decide)|exact bd_giC _ (by decide)|exact bd_svC _ (by decide)|exact bd_lkC _ (by decide)|apply And.intro):AtR D tm rd h n b W keep ut uh ux rs s' :=⟨z1.1,z1.2.1,z1.2.2.1,z1.2.2.2.1,z1.2.2.2.2.1,z1.2.2.2.2.2,z2,z3,z4,z5,z6,z7,z8⟩
end
end Go.Abs

/-! Loops, with heads whose old objects need not be looked at for what they refer to. -/
namespace Go.Abs
open Go
noncomputable section
section
variable {D:List ADf} {tm:Tr AV} {rd:Bool} {h:Tr AObj} {n b:Nat} {W:List Nat} {s':AS} {keep:List Nat} {ut:List (Nat × AV)} {uh:List (Nat × AObj)} {ux:List AObj}
theorem AtZ.at (ha:AtZ D tm rd h n b W keep ut uh ux s'):∀ i,i < n + ux.length → ∃ x,(appT ux n (tput uh h)).get i = some x ∧ (∃ y,s'.h.get i = some y ∧ atR b W i y x) ∧ ((∀ i,i < n → OBd n (hv h i)) → (∀ i,n ≤ i → h.get i = none) → OBd (n + ux.length) x) :=fun i hi => by
 obtain ⟨N,e,h1,h2,h3,h4,h5⟩ :=ha.all
 rw [qd5] at e
 subst e
 obtain ⟨x,hx⟩ :=qkw.lt h5 i hi
 refine ⟨x,hx,?_,fun hOB hend => ?_⟩
 ·obtain ⟨y,k1,k2⟩ :=TrIw.get i _ _ 0 1 h2 x hx
  rw [Nat.zero_add,Nat.one_mul] at k2
  exact ⟨y,k1,k2⟩
 ·rcases qpa ux n _ i x hx with k | k
  ·rcases (qez _ _ _ _ k).2 with k | ⟨_,k⟩
   ·exact (h3.mem i x k).ok
   ·have hin:i < n :=Nat.lt_of_not_le fun hle => by rw [hend i hle] at k;cases k
    have :=hOB i hin
    unfold hv at this
    rw [k] at this
    exact this.mono (Nat.le_add_right _ _)
  ·exact (h4.mem x k).ok
theorem AtZ.wk (ha:AtZ D tm rd h n b W keep ut uh ux s'):∀ i,i < n + ux.length → OWk (hv s'.h i) (hv (qgv D tm rd h n b W keep ut uh ux).h i) :=fun i hi => by
 obtain ⟨x,k1,⟨y,k2,k3⟩,_⟩ :=ha.at i hi
 show OWk (hv s'.h i) (hv (appT ux n (tput uh h)) i)
 unfold hv
 rw [k1,k2]
 exact k3.1
theorem AtZ.same (ha:AtZ D tm rd h n b W keep ut uh ux s'):∀ x,x < n + ux.length → x < b → x ∉ W → hv (qgv D tm rd h n b W keep ut uh ux).h x = hv s'.h x :=fun i hi hb hw => by
 obtain ⟨x,k1,⟨y,k2,k3⟩,_⟩ :=ha.at i hi
 show hv (appT ux n (tput uh h)) i = hv s'.h i
 unfold hv
 rw [k1,k2]
 exact (k3.2 hb hw).symm
end
end
end Go.Abs

/-! Closures that append to a list that they have captured: the list's cell is one of the first objects, its chain stands wherever it does. -/
namespace Go.Abs
open Go
noncomputable section
def qyg (b:Nat → AObj) (h:Tr AObj) (a:Nat) (k:Nat):Prop :=@Nat.rec (fun _ => Prop) True (fun i ih => (i = a ∨ hv h i = b i) ∧ ih) k
theorem qyg.lt {b:Nat → AObj} {h:Tr AObj} {a:Nat}:∀ {k:Nat},qyg b h a k → ∀ i,i < k → i ≠ a → hv h i = b i
 |k + 1,hk,i,hi,hn => by
  by_cases e:i = k
  ·subst e;exact hk.1.resolve_left hn
  ·exact qyg.lt hk.2 i (by omega) hn
def qyh (m:Nat) (b:Nat → AObj) (a:Nat) (k:Nat):Prop :=@Nat.rec (fun _ => Prop) True (fun i ih => (i = a ∨ BdO m (b i)) ∧ ih) k
theorem qyh.lt {m:Nat} {b:Nat → AObj} {a:Nat}:∀ {k:Nat},qyh m b a k → ∀ i,i < k → i ≠ a → OBd m (b i)
 |k + 1,hk,i,hi,hn => by
  by_cases e:i = k
  ·subst e;exact (hk.1.resolve_left hn).ok
  ·exact qyh.lt hk.2 i (by omega) hn
section
variable {P:Program} {S:Sub} (hS:S = qdy P) {f:FuncId} {args:List AV} {h:Tr AObj} {n:Nat} {K:AEnd → Tr AObj → Nat → List Nat → Prop} {b:Nat → AObj} {m a:Nat} {ty:TypeId} {sz:Nat} {e:TypeId} {v:AV}
include hS
end
end
end Go.Abs

namespace Go.Abs
open Go
noncomputable section

end
end Go.Abs
/-! Parts of code that are not yet carried out: blocks, and loops. -/
namespace Go.Abs
open Go
noncomputable section
section
variable {D:List ADf} {tm:Tr AV} {rd:Bool} {h:Tr AObj} {n b:Nat} {W:List Nat} {s':AS} {keep:List Nat} {ut:List (Nat × AV)} {uh:List (Nat × AObj)} {ux:List AObj} {rs:List Nat}
end
end
end Go.Abs

/-! Walks through maps: any entry may come next. -/
namespace Go.Abs
open Go
noncomputable section
/-! ### All ways lead to one end -/
def cutH (s:AS):AH :=⟨s.n,s.n,hv s.h⟩
def SemB (P:Program) (its:List Item) (s0 s:AS) (e:AEx) (s':AS):Prop :=
 ∀ (B:Nat) (H0 H:AH),H0.o = hv s0.h → H.o = hv s.h → ∀ g0 w0 g fr cs w k,Out g0 B w0 H0 g w H → FrRel g B w (s.st H) fr cs → fr.mode = .run → fr.todo = its ++ k →
  (∀ l,s.pm ≠ .pan l) → (e = .ret → fr.roundOf = none) → ∀ k',tgt e k = some k' →
  ∃ g' fr' cs' w',FrRel g' B w' (s'.st (cutH s')) fr' cs' ∧ Out g0 B w0 H0 g' w' (cutH s') ∧ SameFr fr fr' ∧ cs' = cs ∧ ExOk g' w' (cutH s').L e fr' k' ∧ Steps P (lone fr cs w) (lone fr' cs' w')
theorem CsOk.eq {pm:APm} {cs cs':List Frame} (h:CsOk pm cs cs') (hp:∀ l,pm ≠ .pan l):cs' = cs :=by
 cases pm with
 |pan l => exact absurd rfl (hp l)
 | _ => exact h
def Less (s0 s s':AS):Prop :=
 ∀ (B:Nat) (H0 H:AH),H0.o = hv s0.h → H.o = hv s.h → ∀ g0 w0 g fr cs w,Out g0 B w0 H0 g w H → FrRel g B w (s.st H) fr cs → FrRel g B w (s'.st (cutH s')) fr cs ∧ Out g0 B w0 H0 g w (cutH s')
section
variable {P:Program} {its its1:List Item} {s0 s s1 s':AS} {e:AEx}
theorem SemB.less (h:Less s0 s s1) (hp1:∀ l,s1.pm ≠ .pan l) (k:SemB P its s0 s1 e s'):SemB P its s0 s e s' :=by
 intro B H0 H hH0 hH g0 w0 g fr cs w kk ho hr hm ht hp hro k' hk
 obtain ⟨h1,h2⟩ :=h B H0 H hH0 hH g0 w0 g fr cs w ho hr
 exact k B H0 (cutH s1) hH0 rfl g0 w0 g fr cs w kk h2 h1 hm ht hp1 hro k' hk
theorem MRel.ex {g:Gh} {w:World}:∀ {es:List (AV × AV)} {ces:List MapEntry} {j:Nat} {e:MapEntry},MRel g w es ces → ces[j]? = some e → ∃ k v,es[j]? = some (k,v) ∧ VRel g w k e.key ∧ VRel g w v e.val
 | [],ces,j,e,h,hj => by simp only [MRel] at h;subst h;simp at hj
 |(k,v) :: es,ces,0,e,h,hj => by
  obtain ⟨e',es',e1,h1,h2,h3⟩ :=h
  subst e1
  simp at hj
  subst hj
  exact ⟨k,v,by simp,h1,h2⟩
 |(k,v) :: es,ces,j + 1,e,h,hj => by
  obtain ⟨e',es',e1,h1,h2,h3⟩ :=h
  subst e1
  obtain ⟨k',v',q1,q2,q3⟩ :=MRel.ex h3 (by simpa using hj)
  exact ⟨k',v',by simpa using q1,q2,q3⟩
end
section
variable {tm:Tr AV} {rd:Bool} {h:Tr AObj} {n b:Nat} {W:List Nat} {s0 s1:AS} {keep:List Nat} {ut:List (Nat × AV)} {uh:List (Nat × AObj)}
end
end
end Go.Abs

namespace Go.Abs
open Go
noncomputable section
def ghOf (m:Nat → Nat) (w:World):Gh :=⟨fun _ => 0,fun b => if b < w.heap.size then m b else 0,fun _ => 0,fun _ => 0,fun _ => 0⟩
theorem HRel.old (m:Nat → Nat) (w:World) (hg:GOk (ghOf m w) w):HRel (ghOf m w) w.heap.size w AH.nil where
 wf :=fun _ _ => rfl
 ge :=fun _ h => absurd rfl h
 inj :=fun _ _ h => absurd rfl h
 rel :=fun _ => trivial
 live :=fun _ => trivial
 kp :=fun _ => trivial
 imz :=fun _ hb => if_neg (Nat.not_lt.2 hb)
 hB :=Nat.le_refl _
 gl :=hg
theorem Pure.callsAt {P:Program} {f:FuncId} {args:List AV} {b:Bool} (h:Pure P f args (.bool b)) {w:World} {vs:Array Value} (m:Nat → Nat) (hg:GOk (ghOf m w) w) (hv:VRels (ghOf m w) w args vs.toList) (hl:Lives noL args) :
  Calls P f vs w (fun e w' => e = .returned (.bool b) ∧ RowKit.Below w.heap.size w w') :=by
 intro cs
 obtain ⟨g',fr',w',h1,h2,h3,u,h4,h5,_⟩ :=h.2 w.heap.size AH.nil _ vs cs w (HRel.old m w hg) hv hl.ofNo
 simp only [VRel] at h5
 subst h5
 exact ⟨.returned (.bool b),w',fr',⟨rfl,h1.below⟩,h2,h3,h4⟩
theorem VRels.one {g:Gh} {w:World} {x:AV} {u:Value} {xs:List AV} {us:List Value} (h:VRel g w x u) (hs:VRels g w xs us):VRels g w (x :: xs) (u :: us) :=⟨u,us,rfl,h,hs⟩

theorem CSem.same {P:Program} {B:Nat} {f:FuncId} {args:List AV} {H H2:AH} {e:AEnd} (h:CSem P B f args H e H2) (ho:H2.o = H.o):CSem P B f args H e H :=by
 intro g vs cs w hr hv hl
 obtain ⟨g',fr',w',h1,h2,h3,h4⟩ :=h g vs cs w hr hv hl
 have hL:H2.L = H.L :=by funext i;unfold AH.L;rw [ho]
 have rel :=h1.rel
 have ext :=h1.ext
 have own :=h1.own
 have frame :=h1.frame
 refine ⟨g',fr',w',⟨?_,ext,h1.below,fun _ hi => hi,frame,?_⟩,h2,h3,by rw [← hL];exact h4⟩
 ·exact { wf :=hr.wf,ge :=by rw [← ho];exact rel.ge,inj :=by rw [← ho];exact rel.inj,rel :=by rw [← ho];exact rel.rel,live :=by rw [← ho,← hL];exact rel.live,kp :=hr.kp,imz :=rel.imz,hB :=rel.hB,gl :=rel.gl }
 ·intro k hk
  have e:qhe g' H2 k :=by
   obtain ⟨i,hi,ei⟩ :=hk
   exact ⟨i,by rw [ho];exact hi,by rw [ho];exact ei⟩
  exact own k e
theorem HFun.pureR {P:Program} {f:FuncId} {args:List AV} {o:Nat → AObj} {m:Nat} {v:AV} (hf:HFun P f args o m v o) {h:Tr AObj} (he:∀ i,i < m → hv h i = o i):qqd P f args (List.range m) (hv h) v :=fun B H hH => by
 have hH2:∀ i,i < m → H.o i = o i :=fun i hi => (hH i (List.mem_range.2 hi)).trans (he i hi)
 refine (hf B H hH2).same ?_
 funext i
 show (if i < m then o i else H.o i) = H.o i
 split
 ·rename_i hi;exact (hH2 i hi).symm
 ·rfl
theorem qw4 {m:Nat} {x:AV} {K:Tr AV → Prop} (hm:m + 1 < 2 ^ 64) (h:∀ t:Tr AV,(∀ j,t.get j = if j < m then some x else none) → K t):repY true x m K :=by
 unfold repY
 cases Nat.ble 32 m with
 |false =>
  obtain ⟨s,t,hk⟩ :=qis x 64 m hm
  obtain ⟨_,t',h1,_,h2⟩ :=Tr.copyK_spec 64 m (fun a b => a = s ∧ b = t) ((hk _).2 ⟨rfl,rfl⟩)
  obtain rfl :=h1.2
  exact (hk fun _ t => K t).2 (h _ h2)
 |true => exact fun t ht => h t ht
theorem qxp {P:Prop} {Q:Nat → Prop} {n k:Nat} (e:n = k + 1) (h:Q k):@Nat.rec (fun _ => Prop) P (fun m _ => Q m) n :=by subst e;exact h
end
end Go.Abs
/-! Code cut between two parts, where lists that grew in the first part become cells that may be written to in the second one. -/
namespace Go.Abs
open Go
noncomputable section
inductive ThV (n:Nat) (rs:List Nat) (ux:List AObj) (o:Nat → AObj):AV → AV → Prop
 |wk {y a:AV} (h:WkV y a) (b:bd a ≤ n):ThV n rs ux o y a
 |ch {k j c d sz:Nat} {ty:TypeId} {xs:List AV} {t:Tr AV} (hk:0 < k) (hj:j < ux.length) (e:rs.getD j 0 = c) (e2:d = n + j) (ho:o c = .mrow xs k sz ty) (hx:ux.getD j .hole = .cells t (k * sz) ty):ThV n rs ux o (.lst [] k (.ch c)) (.slc d 0 k 0)
def ThE (n:Nat) (rs:List Nat) (ux:List AObj) (o:Nat → AObj) (es es':List (AV × AV)):Prop :=
 @List.rec (AV × AV) (fun _ => List (AV × AV) → Prop) (fun es' => @List.rec (AV × AV) (fun _ => Prop) True (fun _ _ _ => False) es')
  (fun p _ ih es' => @List.rec (AV × AV) (fun _ => Prop) False (fun q r _ => ((WkV p.1 q.1 ∧ bd q.1 ≤ n) ∧ ThV n rs ux o p.2 q.2) ∧ ih r) es') es es'
inductive OTh (n:Nat) (rs:List Nat) (ux:List AObj) (o:Nat → AObj):AObj → AObj → Prop
 |same (x:AObj) (b:BdO n x):OTh n rs ux o x x
 |mapo {es es':List (AV × AV)} (h:ThE n rs ux o es es'):OTh n rs ux o (.mapo es) (.mapo es')
inductive UTh (n:Nat):AObj → AObj → Prop
 |row {xs:List AV} {k sz:Nat} {ty:TypeId} {t:Tr AV} (h:TOf xs t) (b:bdl xs ≤ n):UTh n (.mrow xs k sz ty) (.cells t (k * sz) ty)
section
variable {n:Nat} {rs:List Nat} {ux:List AObj} {g:Gh} {B:Nat} {w:World} {H:AH} {o:Nat → AObj}
theorem OTh.hole {x y:AObj} (h:OTh n rs ux o x y):x = .hole ↔ y = .hole :=by cases h <;> first|exact Iff.rfl|exact ⟨fun e => (nomatch e),fun e => (nomatch e)⟩
theorem ThV.live {y a:AV} (k:ThV n rs ux H.o y a) {o':Nat → AObj} (ho:∀ i,i < n → (H.o i = .hole ↔ o' i = .hole)) (hl:Live H.L y):Live (AH.mk (n + ux.length) (n + ux.length) (zo n ux o')).L a :=by
 cases k with
 |wk h b =>
  refine Live.mono (fun i hi => ?_) a (Live.below a (h.lv _ hl) b)
  show zo n ux o' i ≠ .hole
  unfold zo
  rw [if_pos hi.2]
  exact fun e => hi.1 ((ho i hi.2).2 e)
 | @ch k j c d sz ty xs t hk hj e e2 h1 hx =>
  show zo n ux o' d ≠ .hole
  unfold zo
  rw [if_neg (by omega),show d - n = j by omega,hx]
  exact fun e => nomatch e
theorem ThE.live {o':Nat → AObj} (ho:∀ i,i < n → (H.o i = .hole ↔ o' i = .hole)):∀ {es es':List (AV × AV)},ThE n rs ux H.o es es' → qdz H.L es → qdz (AH.mk (n + ux.length) (n + ux.length) (zo n ux o')).L es'
 | [],[],_,_ => trivial
 | [],_ :: _,k,_ => k.elim
 | _ :: _,[],k,_ => k.elim
 |(_,_) :: _,(_,_) :: _,k,hl => ⟨ThV.live (rs :=rs) (.wk k.1.1.1 k.1.1.2) ho hl.1,k.1.2.live ho hl.2.1,ThE.live ho k.2 hl.2.2⟩
end
def TmTh (n:Nat) (rs:List Nat) (ux:List AObj) (o:Nat → AObj) (tm:Tr AV) (l:List (Nat × AV)):Prop :=
 @List.rec (Nat × AV) (fun _ => Prop) True (fun p _ ih => @Prod.rec Nat AV (fun _ => Prop) (fun i x => (∃ y,tm.get i = some y ∧ ThV n rs ux o y x) ∧ ih) p) l
theorem TmTh.mem {n:Nat} {rs:List Nat} {ux:List AObj} {o:Nat → AObj} {tm:Tr AV}:∀ {l:List (Nat × AV)},TmTh n rs ux o tm l → ∀ j a,(j,a) ∈ l → ∃ y,tm.get j = some y ∧ ThV n rs ux o y a
 |(i,x) :: l,h,j,a,hm => by
  rcases List.mem_cons.1 hm with e | hm
  ·cases e;exact h.1
  ·exact TmTh.mem h.2 j a hm
def ObTh (n:Nat) (rs:List Nat) (ux:List AObj) (s:Nat → AObj) (h':Tr AObj) (k:Nat):Prop :=
 @Nat.rec (fun _ => Prop) True (fun i ih => OTh n rs ux s (s i) (hv h' i) ∧ ih) k
theorem ObTh.lt {n:Nat} {rs:List Nat} {ux:List AObj} {s:Nat → AObj} {h':Tr AObj}:∀ {k:Nat},ObTh n rs ux s h' k → ∀ i,i < k → OTh n rs ux s (s i) (hv h' i)
 |k + 1,hk,i,hi => by
  by_cases e:i = k
  ·subst e;exact hk.1
  ·exact ObTh.lt hk.2 i (by omega)
def UxTh (n:Nat) (s:Nat → AObj) (rs:List Nat):List AObj → Prop :=
 @List.rec Nat (fun _ => List AObj → Prop) (fun ux => @List.rec AObj (fun _ => Prop) True (fun _ _ _ => False) ux)
  (fun c _ ih ux => @List.rec AObj (fun _ => Prop) False (fun x r _ => (n ≤ c ∧ UTh n (s c) x) ∧ ih r) ux) rs
theorem UxTh.get {n:Nat} {s:Nat → AObj}:∀ {rs:List Nat} {ux:List AObj},UxTh n s rs ux → rs.length = ux.length ∧ ∀ j,j < rs.length → n ≤ rs.getD j 0 ∧ UTh n (s (rs.getD j 0)) (ux.getD j .hole)
 | [],[],_ => ⟨rfl,fun j h => absurd h (Nat.not_lt_zero _)⟩
 | [],_ :: _,h => h.elim
 | _ :: _,[],h => h.elim
 |c :: rs,x :: ux,h => by
  obtain ⟨h1,h2⟩ :=UxTh.get h.2
  refine ⟨by rw [List.length_cons,List.length_cons,h1],fun j hj => ?_⟩
  cases j with
  |zero => exact h.1
  |succ j =>
   rw [List.length_cons] at hj
   exact h2 j (by omega)
section
variable {tm:Tr AV} {rd:Bool} {h:Tr AObj} {n b:Nat} {W:List Nat} {s':AS} {keep:List Nat} {ut:List (Nat × AV)} {uh:List (Nat × AObj)} {ux:List AObj} {rs:List Nat}
end
end
end Go.Abs

namespace Go.Abs
open Go
noncomputable section

end
end Go.Abs
/-! Code cut between two parts: cells that were written in the first part never change in the second one. A list that grew becomes cells with room that is known. -/
namespace Go.Abs
open Go
noncomputable section
def TmFz (o:Nat → AObj) (tm:Tr AV) (l:List (Nat × AV)):Prop :=
 @List.rec (Nat × AV) (fun _ => Prop) True (fun p _ ih => @Prod.rec Nat AV (fun _ => Prop) (fun i x => (∃ y,tm.get i = some y ∧ FzV o y x ∧ Live noL x) ∧ ih) p) l
theorem TmFz.mem {o:Nat → AObj} {tm:Tr AV}:∀ {l:List (Nat × AV)},TmFz o tm l → ∀ j a,(j,a) ∈ l → ∃ y,tm.get j = some y ∧ FzV o y a ∧ Live noL a
 |(i,x) :: l,h,j,a,hm => by
  rcases List.mem_cons.1 hm with e | hm
  ·cases e;exact h.1
  ·exact TmFz.mem h.2 j a hm
section
variable {tm:Tr AV} {rd:Bool} {W:List Nat} {s':AS} {keep:List Nat} {ut:List (Nat × AV)} {g g0:Gh} {B:Nat} {w w0:World} {H H0:AH}
end
/-! ### A list that grew, then cells with room that is known -/
def TmC (r k C:Nat) (tm:Tr AV) (l:List (Nat × AV)):Prop :=
 @List.rec (Nat × AV) (fun _ => Prop) True (fun p _ ih => @Prod.rec Nat AV (fun _ => Prop) (fun i x => (∃ y,tm.get i = some y ∧ ((WkV y x ∧ Live noL x) ∨ (y = .lst [] k (.ch r) ∧ x = .slc 0 0 k C))) ∧ ih) p) l
theorem TmC.mem {r k C:Nat} {tm:Tr AV}:∀ {l:List (Nat × AV)},TmC r k C tm l → ∀ j a,(j,a) ∈ l → ∃ y,tm.get j = some y ∧ ((WkV y a ∧ Live noL a) ∨ (y = .lst [] k (.ch r) ∧ a = .slc 0 0 k C))
 |(i,x) :: l,h,j,a,hm => by
  rcases List.mem_cons.1 hm with e | hm
  ·cases e;exact h.1
  ·exact TmC.mem h.2 j a hm
section
variable {tm:Tr AV} {rd:Bool} {W:List Nat} {s':AS} {ut:Nat → List (Nat × AV)} {xs:List AV} {k sz r:Nat} {ty:TypeId} {t:Tr AV} {g g0:Gh} {B:Nat} {w w0:World} {H H0:AH}
end
theorem FzV.slcL {o:Nat → AObj} {i n m m' cap:Nat} {t:Tr AV} {ty:TypeId} {xs:List AV} (ho:o i = .cells t n ty) (hl:xs.length ≤ n) (hx:∀ j,j < xs.length → t.get j = xs[j]?) (hn:Lives noL xs) (hm:m = m'):FzV o (.slc i 0 m cap) (.lst xs m' .no) :=by
 subst hm
 intro g B w H u hH hr hu
 subst hH
 simp only [VRel] at hu ⊢
 obtain ⟨c,hu,hc,_⟩ :=hu
 refine ⟨g.ob i,0,c,hu,hc,?_,?_,trivial⟩
 ·rw [qv7 hr ho];omega
 ·refine LRel.of_get xs 0 fun j a hj => ?_
  have hjn:j < xs.length :=(List.getElem?_eq_some_iff.1 hj).1
  obtain ⟨a',v,h1,h2,h3,_⟩ :=hr.cellAt ho (show j < n by omega)
  rw [hx j hjn,hj] at h1
  cases h1
  have hln:Live noL a :=Lives.mem xs a hn (List.mem_of_getElem? hj)
  exact ⟨v,by rw [Nat.zero_add];exact h2,FzV.no (o :=H.o) hln g B w H v rfl hr h3⟩
end
end Go.Abs

/-! Regions whose order is drawn, and whose last operation is a call that panics. -/
namespace Go.Abs
open Go
noncomputable section
section
variable {P:Program} {T:Tr TypeInfo} {F:Tr Func} {X:XT} {B:Nat} {ops:Array Oper} {base:Nat}
end
end
end Go.Abs

