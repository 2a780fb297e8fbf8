/-
  Loops whose heads have lists of their own that may be begun anew: at each head such lists have the same numbers.
-/
import Derived.Test.YtlmadgdonalncaaGreatDoorU4
/-! Loops whose heads have lists of their own that may be begun anew: at each head such lists have the same numbers. -/
namespace Go.Abs
open Go
noncomputable section
def rnG (g:Gh) (n:Nat) (rs:List Nat):Gh :=
 { g with cn :=fun i => if i < n then g.cn i else g.cn (rs.getD (i - n) 0),cb :=fun i => if i < n then g.cb i else g.cb (rs.getD (i - n) 0),cc :=fun i => if i < n then g.cc i else g.cc (rs.getD (i - n) 0) }
theorem qir (g:Gh) (n:Nat) (rs:List Nat) (w:World):Ext (fun i => i < n) g w (rnG g n rs) w :=
 ⟨fun _ _ => rfl,fun i hi => by show _ ≤ (if i < n then _ else _);rw [if_pos hi];exact Nat.le_refl _,fun i hi _ => ⟨if_pos hi,if_pos hi⟩,fun _ => Nat.le_refl _,fun _ _ _ => rfl⟩
def qc6:AObj → Prop
 | .chain _ _ _ => True
 | _ => False
theorem qc6.bk {x:AObj} (h:qc6 x) (g:Gh) (i:Nat):g.bk x i = g.cb i :=by cases x <;> first|rfl|exact h.elim
theorem qc6.ne {x:AObj} (h:qc6 x):x ≠ .hole :=fun e => by subst e;exact h
theorem qc6.bd {x:AObj} (h:qc6 x) (n:Nat):OBd n x :=by cases x <;> first|trivial|exact h.elim
theorem qc6.lv {x:AObj} (h:qc6 x) (L:Nat → Prop):qcg L x :=by cases x <;> first|trivial|exact h.elim
inductive RnV (n:Nat) (rs:List Nat):AV → AV → Prop
 |wk {y a:AV} (h:WkV y a) (b:bd a ≤ n):RnV n rs y a
 |ch {xs:List AV} {k j c d:Nat} (hj:j < rs.length) (e:rs.getD j 0 = c) (e2:d = n + j) (b:bdl xs ≤ n):RnV n rs (.lst xs k (.ch c)) (.lst xs k (.ch d))
 |tr {y z a:AV} (h:WkV y z) (k:RnV n rs z a):RnV n rs y a
def zo (n:Nat) (ux:List AObj) (o:Nat → AObj) (i:Nat):AObj :=if i < n then o i else ux.getD (i - n) .hole
structure ZnR (n:Nat) (rs:List Nat) (ux:List AObj) (o:Nat → AObj):Prop where
 len:rs.length = ux.length
 nd:rs.Nodup
 ge:∀ j,j < rs.length → n ≤ rs.getD j 0
 ob:∀ j,j < rs.length → o (rs.getD j 0) = ux.getD j .hole
 ch:∀ j,j < rs.length → qc6 (ux.getD j .hole)
section
variable {n:Nat} {rs:List Nat} {ux:List AObj} {g:Gh} {B:Nat} {w:World} {H:AH} {o:Nat → AObj}
theorem HRel.rn (h:HRel g B w H) (ho:∀ i,i < n → OWk (H.o i) (o i)) (hb:∀ i,i < n → OBd n (o i)) (hz:ZnR n rs ux H.o):HRel (rnG g n rs) B w ⟨n + ux.length,n + ux.length,zo n ux o⟩ :=by
 have nh:∀ i,i < n → o i ≠ .hole → H.o i ≠ .hole :=fun i hi hn e => hn ((ho i hi).hole.1 e)
 have out:∀ i,¬ i < n → ¬ i - n < rs.length → ux.getD (i - n) .hole = .hole :=fun i _ hi => by
  rw [List.getD_eq_getElem?_getD,List.getElem?_eq_none (by rw [← hz.len];omega)];rfl
 have bk1:∀ (x:AObj) i,i < n → (rnG g n rs).bk x i = g.bk x i :=fun x i hi => by cases x <;> first|rfl|exact if_pos hi
 have bk2:∀ i,¬ i < n → i - n < rs.length → (rnG g n rs).bk (ux.getD (i - n) .hole) i = g.bk (H.o (rs.getD (i - n) 0)) (rs.getD (i - n) 0) :=fun i hi hl => by
  rw [(hz.ch _ hl).bk,hz.ob _ hl,(hz.ch _ hl).bk];exact if_neg hi
 have inz:∀ i,¬ i < n → i - n < rs.length → H.o (rs.getD (i - n) 0) ≠ .hole :=fun i _ hl => by rw [hz.ob _ hl];exact (hz.ch _ hl).ne
 have zinj:∀ i j,i < rs.length → j < rs.length → rs.getD i 0 = rs.getD j 0 → i = j :=fun i j hi hj e => by
  rw [List.getD_eq_getElem?_getD,List.getD_eq_getElem?_getD,List.getElem?_eq_getElem hi,List.getElem?_eq_getElem hj] at e
  simp only [Option.getD_some] at e
  have hp :=List.pairwise_iff_getElem.1 hz.nd
  rcases Nat.lt_trichotomy i j with k | k | k
  ·exact absurd e (hp i j hi hj k)
  ·exact k
  ·exact absurd e.symm (hp j i hj hi k)
 constructor
 ·intro i hi
  simp only at hi
  show zo n ux o i = _
  unfold zo
  rw [if_neg (by omega)]
  exact out i (by omega) (by rw [hz.len];omega)
 ·intro i hi
  simp only at hi ⊢
  unfold zo at hi ⊢
  by_cases e:i < n
  ·rw [if_pos e] at hi ⊢;rw [bk1 _ _ e,(ho i e).bk];exact h.ge i (nh i e hi)
  ·rw [if_neg e] at hi ⊢
   by_cases l:i - n < rs.length
   ·rw [bk2 i e l];exact h.ge _ (inz i e l)
   ·exact absurd (out i e l) hi
 ·intro i j hi hj
  simp only at hi hj ⊢
  unfold zo at hi hj ⊢
  by_cases e:i < n
  ·by_cases e2:j < n
   ·rw [if_pos e] at hi ⊢;rw [if_pos e2] at hj ⊢
    rw [bk1 _ _ e,bk1 _ _ e2,(ho i e).bk,(ho j e2).bk];exact h.inj i j (nh i e hi) (nh j e2 hj)
   ·rw [if_pos e] at hi ⊢;rw [if_neg e2] at hj ⊢
    by_cases l:j - n < rs.length
    ·rw [bk1 _ _ e,bk2 j e2 l,(ho i e).bk]
     intro k
     have :=h.inj i _ (nh i e hi) (inz j e2 l) k
     have :=hz.ge _ l
     omega
    ·exact absurd (out j e2 l) hj
  ·by_cases l:i - n < rs.length
   ·by_cases e2:j < n
    ·rw [if_neg e] at hi ⊢;rw [if_pos e2] at hj ⊢
     rw [bk2 i e l,bk1 _ _ e2,(ho j e2).bk]
     intro k
     have :=h.inj _ j (inz i e l) (nh j e2 hj) k
     have :=hz.ge _ l
     omega
    ·rw [if_neg e] at hi ⊢;rw [if_neg e2] at hj ⊢
     by_cases l2:j - n < rs.length
     ·rw [bk2 i e l,bk2 j e2 l2]
      intro k
      have :=zinj _ _ l l2 (h.inj _ _ (inz i e l) (inz j e2 l2) k)
      omega
     ·exact absurd (out j e2 l2) hj
   ·rw [if_neg e] at hi;exact absurd (out i e l) hi
 ·intro i
  simp only
  unfold zo
  by_cases e:i < n
  ·rw [if_pos e]
   by_cases hh:o i = .hole
   ·rw [hh];trivial
   ·have h1 :=(ho i e).rel (h.rel i)
    refine h1.ext (qir g n rs w) (qcg.mono (fun _ k => k.2) (qcg.below ((ho i e).live (h.live i)) (hb i e))) e rfl rfl (if_pos e)
  ·rw [if_neg e]
   by_cases l:i - n < rs.length
   ·have h1 :=h.rel (rs.getD (i - n) 0)
    rw [hz.ob _ l] at h1
    have h2 :=hz.ch _ l
    revert h1 h2
    cases ux.getD (i - n) .hole <;> intro h1 h2 <;> first|exact h2.elim | skip
    obtain ⟨arr,k1,k2,k3,k4,k5⟩ :=h1
    have e1:(rnG g n rs).cb i = g.cb (rs.getD (i - n) 0) :=if_neg e
    have e2:(rnG g n rs).cc i = g.cc (rs.getD (i - n) 0) :=if_neg e
    have e3:(rnG g n rs).cn i = g.cn (rs.getD (i - n) 0) :=if_neg e
    refine ⟨arr,by rw [e1];exact k1,by rw [e1];exact k2,by rw [e2];exact k3,by rw [e2];exact k4,by rw [e3];exact k5⟩
   ·rw [out i e l];trivial
 ·intro i
  simp only
  unfold zo
  by_cases e:i < n
  ·rw [if_pos e]
   refine qcg.mono (fun j hj => ?_) (qcg.below ((ho i e).live (h.live i)) (hb i e))
   show (if j < n then o j else _) ≠ .hole
   rw [if_pos hj.2];exact fun k => hj.1 ((ho j hj.2).hole.2 k)
  ·rw [if_neg e]
   by_cases l:i - n < rs.length
   ·exact (hz.ch _ l).lv _
   ·rw [out i e l];trivial
 ·intro i
  simp only
  unfold zo
  by_cases e:i < n
  ·rw [if_pos e];exact (hb i e).mono (by omega)
  ·rw [if_neg e]
   by_cases l:i - n < rs.length
   ·exact (hz.ch _ l).bd _
   ·rw [out i e l];trivial
 ·exact h.imz
 ·exact h.hB
theorem Out.rn {g0:Gh} {w0:World} {H0:AH} (h:Out g0 B w0 H0 g w H) (ho:∀ i,i < n → OWk (H.o i) (o i)) (hb:∀ i,i < n → OBd n (o i)) (hz:ZnR n rs ux H.o) (hL:∀ i,H0.L i → i < n):Out g0 B w0 H0 (rnG g n rs) w ⟨n + ux.length,n + ux.length,zo n ux o⟩ :=by
 refine ⟨h.rel.rn ho hb hz,h.ext.trans ((qir g n rs w).mono hL),h.below,fun i hi => ?_,h.frame,fun k hk => ?_⟩
 ·show zo n ux o i ≠ .hole
  unfold zo
  rw [if_pos (hL i hi)]
  exact fun e => h.L i hi ((ho i (hL i hi)).hole.2 e)
 ·obtain ⟨i,hi,e⟩ :=hk
  simp only at hi e
  unfold zo at hi e
  by_cases hlt:i < n
  ·rw [if_pos hlt] at hi e
   have e3:(rnG g n rs).bk (o i) i = g.bk (o i) i :=by cases o i <;> first|rfl|exact if_pos hlt
   rw [e3,(ho i hlt).bk] at e
   exact h.own k ⟨i,fun k => hi ((ho i hlt).hole.1 k),e⟩
  ·rw [if_neg hlt] at hi e
   by_cases l:i - n < rs.length
   ·have e3:(rnG g n rs).bk (ux.getD (i - n) .hole) i = g.bk (H.o (rs.getD (i - n) 0)) (rs.getD (i - n) 0) :=by
     rw [(hz.ch _ l).bk,hz.ob _ l,(hz.ch _ l).bk];exact if_neg hlt
    exact h.own k ⟨_,by rw [hz.ob _ l];exact (hz.ch _ l).ne,by rw [← e3];exact e⟩
   ·exact absurd (by rw [List.getD_eq_getElem?_getD,List.getElem?_eq_none (by rw [← hz.len];omega)];rfl) hi
theorem RnV.rel {L:Nat → Prop} {y a:AV} {u:Value} (k:RnV n rs y a) (hl:Live L y) (hv:VRel g w y u):VRel (rnG g n rs) w a u :=by
 induction k with
 |tr h _ ih => exact ih (h.lv _ hl) (h.wk _ _ _ hv)
 |wk h b => exact VRel.ext (qir g n rs w) _ u (Live.mono (fun _ k => k.2) _ (Live.below _ (h.lv _ hl) b)) (h.wk _ _ _ hv)
 | @ch xs k j c d hj e e2 b =>
  subst e e2
  simp only [VRel] at hv ⊢
  obtain ⟨bb,off,cap,h1,h2,h3,h4,h5⟩ :=hv
  have hx :=VRel.ext (qir g n rs w) (.lst xs k .no) u (Live.mono (fun _ k => k.2) _ (Live.below (.lst xs k .no) (L :=L) ⟨hl.1,fun _ e => nomatch e⟩ b)) (by simp only [VRel];exact ⟨bb,off,cap,h1,h2,h3,h4,trivial⟩)
  simp only [VRel] at hx
  obtain ⟨bb',off',cap',k1,k2,k3,k4,_⟩ :=hx
  rw [h1] at k1
  cases k1
  refine ⟨bb,off,cap,h1,h2,h3,k4,?_⟩
  have e1:(rnG g n rs).cb (n + j) = g.cb (rs.getD j 0) :=by show (if n + j < n then _ else _) = _;rw [if_neg (by omega),Nat.add_sub_cancel_left]
  have e2:(rnG g n rs).cc (n + j) = g.cc (rs.getD j 0) :=by show (if n + j < n then _ else _) = _;rw [if_neg (by omega),Nat.add_sub_cancel_left]
  have e3:(rnG g n rs).cn (n + j) = g.cn (rs.getD j 0) :=by show (if n + j < n then _ else _) = _;rw [if_neg (by omega),Nat.add_sub_cancel_left]
  show k ≤ (rnG g n rs).cn (n + j) ∧ (k = (rnG g n rs).cn (n + j) → bb = (rnG g n rs).cb (n + j) ∧ off = 0 ∧ cap = (rnG g n rs).cc (n + j))
  rw [e1,e2,e3]
  exact h5
end
/-! ### The head -/
def TmR (n:Nat) (rs:List Nat) (tm:Tr AV) (l:List (Nat × AV)):Prop :=
 @List.rec (Nat × AV) (fun _ => Prop) True (fun p _ ih => @Prod.rec Nat AV (fun _ => Prop) (fun i x => (∃ y,tm.get i = some y ∧ RnV n rs y x) ∧ ih) p) l
theorem TmR.mem {n:Nat} {rs:List Nat} {tm:Tr AV}:∀ {l:List (Nat × AV)},TmR n rs tm l → ∀ j a,(j,a) ∈ l → ∃ y,tm.get j = some y ∧ RnV n rs y a
 |(i,x) :: l,h,j,a,hm => by
  rcases List.mem_cons.1 hm with e | hm
  ·cases e;exact h.1
  ·exact TmR.mem h.2 j a hm
def ZnL (n:Nat) (o:Tr AObj) (rs:List Nat):List AObj → Prop :=
 @List.rec Nat (fun _ => List AObj → Prop) (fun ux => @List.rec AObj (fun _ => Prop) True (fun _ _ _ => False) ux)
  (fun c _ ih ux => @List.rec AObj (fun _ => Prop) False (fun x r _ => (n ≤ c ∧ hv o c = x ∧ qc6 x) ∧ ih r) ux) rs
theorem ZnL.get {n:Nat} {o:Tr AObj}:∀ {rs:List Nat} {ux:List AObj},ZnL n o rs ux → rs.length = ux.length ∧ ∀ j,j < rs.length → n ≤ rs.getD j 0 ∧ hv o (rs.getD j 0) = ux.getD j .hole ∧ qc6 (ux.getD j .hole)
 | [],[],_ => ⟨rfl,fun j h => absurd h (Nat.not_lt_zero _)⟩
 | [],_ :: _,h => h.elim
 | _ :: _,[],h => h.elim
 |c :: rs,x :: ux,h => by
  obtain ⟨h1,h2⟩ :=ZnL.get h.2
  refine ⟨by rw [List.length_cons,List.length_cons,h1],fun j hj => ?_⟩
  cases j with
  |zero => exact h.1
  |succ j =>
   rw [List.length_cons] at hj
   exact h2 j (by omega)
def ZxL (t:Tr AObj) (n:Nat) (ux:List AObj):Prop :=@List.rec AObj (fun _ => Nat → Prop) (fun _ => True) (fun x _ ih n => t.get n = some x ∧ ih (Nat.succ n)) ux n
theorem ZxL.get {t:Tr AObj}:∀ {ux:List AObj} {n:Nat},ZxL t n ux → ∀ j,j < ux.length → t.get (n + j) = some (ux.getD j .hole)
 |x :: ux,n,h,j,hj => by
  cases j with
  |zero => exact h.1
  |succ j =>
   rw [List.length_cons] at hj
   have :=ZxL.get h.2 j (by omega)
   rw [show n + (j + 1) = Nat.succ n + j by show _ = n + 1 + j;omega]
   exact this
theorem Dm.relG {g:Gh} {w:World} {L L':Nat → Prop} {m n:Nat} {rs:List Nat}:∀ {D:List ADf} {ds:List Deferred},Dm m D → (∀ i,i < m → L i → L' i) → qf5 g w L D ds → qf5 (rnG g n rs) w L' D ds
 | [],_,_,_,h => h
 | .call _ _ :: _,_,h,_,_ => h.elim
 | .mark o :: l,ds,h,hl,hr => by
  obtain ⟨ds',e1,h1,h2⟩ :=hr
  exact ⟨ds',e1,hl o h.1 h1,Dm.relG h.2 hl h2⟩
structure AtR (D:List ADf) (tm:Tr AV) (rd:Bool) (h:Tr AObj) (n b:Nat) (W:List Nat) (keep:List Nat) (ut:List (Nat × AV)) (uh:List (Nat × AObj)) (ux:List AObj) (rs:List Nat) (s':AS):Prop where
 df:s'.df = D
 pm:s'.pm = .no
 rd:s'.rd = rd
 bq:s'.b = b
 wr:s'.wr = W
 dom:unkT s'.tm = unkT tm
 nd:rs.Nodup
 tmr:TmR n rs s'.tm (apL (kept tm keep) ut)
 ob:TrIw b W s'.h 0 1 (tput uh h)
 bd:BdL n uh
 full:qjd (tput uh h) n = true
 zn:ZnL n s'.h rs ux
 zx:ZxL (appT ux n (tput uh h)) n ux
section
variable {D:List ADf} {tm:Tr AV} {rd:Bool} {h:Tr AObj} {n b:Nat} {W:List Nat} {s':AS} {keep:List Nat} {ut:List (Nat × AV)} {uh:List (Nat × AObj)} {ux:List AObj} {rs:List Nat}
theorem AtR.znr (ha:AtR D tm rd h n b W keep ut uh ux rs s'):ZnR n rs ux (hv s'.h) :=
 ⟨ha.zn.get.1,ha.nd,fun j hj => (ha.zn.get.2 j hj).1,fun j hj => (ha.zn.get.2 j hj).2.1,fun j hj => (ha.zn.get.2 j hj).2.2⟩
theorem AtR.old (hB:TrBd n h) (ha:AtR D tm rd h n b W keep ut uh ux rs s'):∀ i,i < n → ∃ x,(tput uh h).get i = some x ∧ (∃ y,s'.h.get i = some y ∧ atR b W i y x) ∧ BdO n x :=fun i hi => by
 obtain ⟨x,hx⟩ :=qjd.lt ha.full i hi
 refine ⟨x,hx,?_,?_⟩
 ·obtain ⟨y,k1,k2⟩ :=TrIw.get i _ _ 0 1 ha.ob x hx
  rw [Nat.zero_add,Nat.one_mul] at k2
  exact ⟨y,k1,k2⟩
 ·rcases (qcm _ _ _ _ hx).2 with k | ⟨_,k⟩
  ·exact ha.bd.mem i x k
  ·exact TrBd.get (pathOf i) h hB x k
theorem qne:∀ (xs:List AObj) (n:Nat) (h:Tr AObj) (i:Nat),i < n → (appT xs n h).get i = h.get i
 | [],_,_,_,_ => rfl
 |x :: xs,n,h,i,hi => by
  have :=qne xs (n + 1) (tadd (pathOf n) h x) i (by omega)
  refine this.trans ?_
  unfold Tr.get
  rw [qgq _ _ _ fun e => by have :=qc0 _ _ e;omega]
theorem qst (_he:HEnd h n) (hx:∀ j,j < ux.length → (appT ux n (tput uh h)).get (n + j) = some (ux.getD j .hole)):hv (qec D tm rd h n b W keep ut uh ux).h = zo n ux (hv (tput uh h)) :=by
 funext i
 show hv (appT ux n (tput uh h)) i = _
 unfold zo
 by_cases hi:i < n
 ·rw [if_pos hi]
  unfold hv
  rw [qne ux n _ i hi]
 ·rw [if_neg hi]
  by_cases hj:i - n < ux.length
  ·have :=hx (i - n) hj
   rw [show n + (i - n) = i by omega] at this
   unfold hv
   rw [this]
  ·have he2 :=qhc (D :=D) (tm :=tm) (rd :=rd) (b :=b) (W :=W) (keep :=keep) (ut :=ut) (uh :=uh) (ux :=ux) _he
   have :=he2.hole (i :=i) (by show endN ux n ≤ i;rw [qb2];omega)
   rw [List.getD_eq_getElem?_getD,List.getElem?_eq_none (by omega)]
   exact this
theorem AtR.tms (ha:AtR D tm rd h n b W keep ut uh ux rs s'):∀ i a,(qec D tm rd h n b W keep ut uh ux).tm.get i = some a → ∃ y,s'.tm.get i = some y ∧ RnV n rs y a :=by
 intro i a hi
 obtain ⟨⟨y,h1⟩,h2⟩ :=qcm _ _ _ _ hi
 rcases h2 with h2 | ⟨_,h3⟩
 ·exact ha.tmr.mem i a h2
 ·rw [qbh] at h3
  have hd:(s'.tm.get i).map (fun _ => AV.unk) = (tm.get i).map fun _ => AV.unk :=by rw [← qbh,← qbh,ha.dom]
  cases hs:tm.get i with
  |none => rw [hs] at h3;cases h3
  |some z =>
   rw [hs] at h3 hd
   simp only [Option.map_some,Option.some.injEq] at h3
   subst h3
   cases hs':s'.tm.get i with
   |none => rw [hs'] at hd;cases hd
   |some z' => exact ⟨z',rfl,.wk (WkV.unk z') (Nat.zero_le _)⟩
theorem AtR.adapt (hB:TrBd n h) (hD:Dm n D) (ha:AtR D tm rd h n b W keep ut uh ux rs s') {g g0:Gh} {B:Nat} {w w0:World} {H H0:AH} {fr:Frame} {cs:List Frame} (hH:H.o = hv s'.h) (hL:∀ i,H0.L i → i < n)
  (hr:FrRel g B w (s'.st H) fr cs) (ho:Out g0 B w0 H0 g w H) :
  FrRel (rnG g n rs) B w ((qec D tm rd h n b W keep ut uh ux).st ⟨n + ux.length,n + ux.length,zo n ux (hv (tput uh h))⟩) fr cs ∧ Out g0 B w0 H0 (rnG g n rs) w ⟨n + ux.length,n + ux.length,zo n ux (hv (tput uh h))⟩ :=by
 have hold :=ha.old hB
 have hok:∀ i,i < n → OWk (H.o i) (hv (tput uh h) i) ∧ OBd n (hv (tput uh h) i) :=fun i hi => by
  obtain ⟨x,k1,⟨y,k2,k3⟩,k4⟩ :=hold i hi
  rw [hH]
  unfold hv
  rw [k1,k2]
  exact ⟨k3.1,k4.ok⟩
 have hz:ZnR n rs ux H.o :=by rw [hH];exact ha.znr
 have hrel :=hr.h.rn (fun i hi => (hok i hi).1) (fun i hi => (hok i hi).2) hz
 refine ⟨⟨hrel,⟨fun t a ht => ?_,fun t a ht => ?_⟩,?_,trivial,fun e => hr.rd (by show s'.rd = false;rw [ha.rd];exact e)⟩,ho.rn (fun i hi => (hok i hi).1) (fun i hi => (hok i hi).2) hz hL⟩
 ·obtain ⟨y,k1,k2⟩ :=ha.tms t a ht
  have :=hr.tm.rel t y k1
  exact ⟨this.1,k2.rel (hr.tm.live t y k1) this.2⟩
 ·obtain ⟨y,k1,k2⟩ :=ha.tms t a ht
  have hl :=hr.tm.live t y k1
  have lold:∀ i,H.L i ∧ i < n → zo n ux (hv (tput uh h)) i ≠ .hole :=fun i hi => by
   unfold zo
   rw [if_pos hi.2]
   exact fun e => hi.1 (((hok i hi.2).1).hole.2 e)
  clear k1 ht
  induction k2 with
  |tr h _ ih => exact ih (h.lv _ hl)
  |wk hw hb => exact Live.mono lold _ (Live.below _ (hw.lv _ hl) hb)
  | @ch xs k j c d hj e e2 b =>
   subst e e2
   refine ⟨Lives.mono lold xs (Lives.below xs hl.1 b),fun c e => ?_⟩
   cases e
   show zo n ux _ (n + j) ≠ .hole
   unfold zo
   rw [if_neg (by omega),Nat.add_sub_cancel_left]
   exact (hz.ch j hj).ne
 ·have hdf :=hr.df
  have e:(s'.st H).df = D :=ha.df
  rw [e] at hdf
  exact Dm.relG hD (fun i hi hl => by
   show zo n ux _ i ≠ .hole
   unfold zo
   rw [if_pos hi]
   exact fun e => hl (((hok i hi).1).hole.2 e)) hdf
theorem qoz {E:Env} (hE:E.Ok) {S:Sub} (hS:S = qbm E.P) {A:Type} {c:Code} {f:AS → KE → Prop} {tm:Tr AV} {df:List ADf} {pm:APm} {rd:Bool} {h:Tr AObj} {n b:Nat} {W0:List Nat} {K:KE}
  (W:List Nat) (hW:∀ x,x ∈ W0 → x ∈ W) (keep:List Nat) (ut:A → List (Nat × AV)) (uh:A → List (Nat × AObj)) (ux:A → List AObj) (I:A → Prop) (m:A → Nat) (a0:A) (hbn:b ≤ n) (hD:Dm n df) (hu0:ux a0 = []) (hB:TrBd n h)
  (h0:AtR df tm rd h n b W keep (ut a0) (uh a0) (ux a0) [] ⟨tm,df,pm,rd,h,n,b,W⟩) (hI:I a0)
  (step:∀ a,I a → ∀ N,N = endN (ux a) n → exC c E S ⟨tput (apL (kept tm keep) (ut a)) (unkT tm),df,.no,rd,appT (ux a) n (tput (uh a) h),N,b,W⟩ fun e s' => @AEx.rec (fun _ => Prop)
   (∃ a' rs,I a' ∧ m a' < m a ∧ AtR df tm rd h n b W keep (ut a') (uh a') (ux a') rs s')
   (fun id => K (.exit id) s') (K .ret s') (fun l => K (.panic l) s') e):S.loop c f ⟨tm,df,pm,rd,h,n,b,W0⟩ K :=by
 subst hS
 intro he
 simp only at he
 -- the state at the head, with a heap
 let hd:A → St :=fun a => (qec df tm rd h n b W keep (ut a) (uh a) (ux a)).st ⟨n + (ux a).length,n + (ux a).length,zo n (ux a) (hv (tput (uh a) h))⟩
 let its:List Item :=[.code c,.inLoop c]
 let Pre:Nat → AH → A → Prop :=fun B H a => ∀ g0 fr0 cs0 w0 k,FrRel g0 B w0 ((⟨tm,df,pm,rd,h,n,b,W0⟩ : AS).st H) fr0 cs0 → fr0.mode = .run → fr0.todo = its ++ k →
  ∃ g fr cs w,FrRel g B w (hd a) fr cs ∧ Out g0 B w0 H g w (hd a).H ∧ SameFr fr0 fr ∧ CsOk pm cs0 cs ∧ fr.mode = .run ∧ fr.todo = its ++ k ∧ Steps E.P (lone fr0 cs0 w0) (lone fr cs w)
 have hpm:pm = .no :=h0.pm
 have main:∀ (k:Nat) (a:A),I a → m a < k → (∀ j,j < (ux a).length → (appT (ux a) n (tput (uh a) h)).get (n + j) = some ((ux a).getD j .hole)) → (∀ B H,H.o = hv h → Pre B H a) → (∀ x,x < b → x ∉ W → hv (tput (uh a) h) x = hv h x) →
   ∃ e s',K e s' ∧ Aft ⟨tm,df,pm,rd,h,n,b,W0⟩ s' ∧ ∀ (B:Nat) (H:AH),H.o = hv h → ∃ H':AH,H'.o = hv s'.h ∧ SemL E.P B c ((⟨tm,df,pm,rd,h,n,b,W0⟩ : AS).st H) e (s'.st H') :=by
  intro k
  induction k with
  |zero => intro a _ h;omega
  |succ k ih =>
   intro a hIa hm hx hpre hsm
   have hea :=qhc (D :=df) (tm :=tm) (rd :=rd) (b :=b) (W :=W) (keep :=keep) (ut :=ut a) (uh :=uh a) (ux :=ux a) he
   have hhv :=qst (D :=df) (tm :=tm) (rd :=rd) (b :=b) (W :=W) (keep :=keep) (ut :=ut a) (uh :=uh a) (ux :=ux a) he hx
   obtain ⟨e,s1,h1,h2,h3⟩ :=qf3 hE (qbj E.P) c _ _ (step a hIa _ rfl) hea
   have hkept:∀ x,x < b → x ∉ s1.wr → hv s1.h x = hv h x :=fun x hx hn => by
    have k1:Kept b (qec df tm rd h n b W keep (ut a) (uh a) (ux a)).h W s1.h s1.wr :=h2.kept
    rw [k1.same x hx hn,hhv]
    unfold zo
    rw [if_pos (by omega)]
    exact hsm x hx fun h => hn (k1.sub x h)
   have haft:Aft ⟨tm,df,pm,rd,h,n,b,W0⟩ s1 :=⟨h2.he,h2.b,fun x hx => (by
    have k1:Kept b (qec df tm rd h n b W keep (ut a) (uh a) (ux a)).h W s1.h s1.wr :=h2.kept
    exact k1.sub x (hW x hx)),hkept⟩
   by_cases hn:e = .normal
   ·subst hn
    obtain ⟨a',rs,hIa',hlt,hah⟩ :=h1
    refine ih a' hIa' (by omega) hah.zx.get (fun B H hH => ?_) fun x hx hn => ?_
    ·intro g0 fr0 cs0 w0 kk hr0 hm0 ht0
     obtain ⟨g,fr,cs,w,q1,q2,q3,q4,q5,q6,q7⟩ :=hpre B H hH g0 fr0 cs0 w0 kk hr0 hm0 ht0
     obtain ⟨H1,k1,k2⟩ :=h3 B ⟨n + (ux a).length,n + (ux a).length,zo n (ux a) (hv (tput (uh a) h))⟩ hhv.symm
     obtain ⟨g',fr',cs',w',r1,r2,r3,r4,r5,r6,r7⟩ :=k2 g fr cs w (.inLoop c :: kk) q1 q5 q6 (fun e => by cases e) _ rfl
     have hL:∀ i,H.L i → i < n :=fun i hi => by
      apply Nat.lt_of_not_le
      intro hle
      have hi:H.o i ≠ .hole :=hi
      rw [hH] at hi
      exact hi (he.hole hle)
     obtain ⟨z1,z2⟩ :=hah.adapt hB hD k1 hL r1 (q2.trans r2)
     refine ⟨_,{ fr' with todo :=its ++ kk },cs',w',z1.todo _,z2,⟨r3.fn.trans q3.fn,r3.kind.trans q3.kind,r3.round.trans q3.round⟩,?_,r6.1,rfl,q7.trans (r7.trans (qa2 ?_))⟩
     ·subst hpm
      have e1:cs' = cs :=r4
      rw [e1];exact q4
     ·simp [stepG,stepG.exec,r6.1,r6.2,its]
    ·obtain ⟨y,k1,⟨z,k2,k3⟩,_⟩ :=hah.old hB x (by omega)
     have e1:hv (tput (uh a') h) x = hv s1.h x :=by
      unfold hv
      rw [k1,k2]
      exact (k3.2 hx hn).symm
     rw [e1]
     exact hkept x hx (by rw [hah.wr];exact hn)
   ·have plain:K e s1 → ∃ e s',K e s' ∧ Aft ⟨tm,df,pm,rd,h,n,b,W0⟩ s' ∧ ∀ (B:Nat) (H:AH),H.o = hv h → ∃ H':AH,H'.o = hv s'.h ∧ SemL E.P B c ((⟨tm,df,pm,rd,h,n,b,W0⟩ : AS).st H) e (s'.st H') :=fun hk => by
     refine ⟨e,s1,hk,haft,fun B H hH => ?_⟩
     obtain ⟨H1,k1,k2⟩ :=h3 B ⟨n + (ux a).length,n + (ux a).length,zo n (ux a) (hv (tput (uh a) h))⟩ hhv.symm
     have k3 :=SemL.stop k2 hn
     refine ⟨H1,k1,fun g0 fr0 cs0 w0 kk hr0 hm0 ht0 hro k' hk' => ?_⟩
     obtain ⟨g,fr,cs,w,q1,q2,q3,q4,q5,q6,q7⟩ :=hpre B H hH g0 fr0 cs0 w0 kk hr0 hm0 ht0
     obtain ⟨g',fr',cs',w',r1,r2,r3,r4,r5,r6,r7⟩ :=k3 g fr cs w kk q1 q5 q6 (fun e => q3.round.trans (hro e)) k' hk'
     refine ⟨g',fr',cs',w',r1,q2.trans r2,q3.trans r3,?_,?_,r6,q7.trans r7⟩
     ·subst hpm
      have e1:cs = cs0 :=q4
      have e2:cs' = cs :=r4
      show cs' = cs0
      rw [e2,e1]
     ·subst hpm
      exact r5
    cases e with
    |normal => exact absurd rfl hn
    |ret => exact plain h1
    |panic l => exact plain h1
    |exit id => exact plain h1
 refine main (m a0 + 1) a0 hI (by omega) (by rw [hu0];intro j hj;exact absurd hj (Nat.not_lt_zero _)) (fun B H hH => ?_) fun x hx hn => ?_
 ·intro g0 fr0 cs0 w0 kk hr0 hm0 ht0
  have hL:∀ i,H.L i → i < n :=fun i hi => by
   apply Nat.lt_of_not_le
   intro hle
   have hi:H.o i ≠ .hole :=hi
   rw [hH] at hi
   exact hi (he.hole hle)
  obtain ⟨z1,z2⟩ :=h0.adapt hB hD hH hL hr0 (Out.refl hr0.h)
  exact ⟨_,fr0,cs0,w0,z1,z2,⟨rfl,rfl,rfl⟩,CsOk.refl _ _ _ hr0.pm,hm0,ht0,.refl _ _⟩
 ·obtain ⟨y,k1,⟨z,k2,k3⟩,_⟩ :=h0.old hB x (by omega)
  unfold hv
  rw [k1,k2]
  exact (k3.2 hx hn).symm
end
theorem zhr {D:List ADf} {tm:Tr AV} {rd:Bool} {h:Tr AObj} {n b:Nat} {W:List Nat} {keep:List Nat} {ut:List (Nat × AV)} {uh:List (Nat × AObj)} {ux:List AObj} {rs:List Nat} {s':AS} (z1:s'.df = D ∧ s'.pm = .no ∧ s'.rd = rd ∧ s'.b = b ∧ s'.wr = W ∧ unkT s'.tm = unkT tm := by exact ⟨rfl,rfl,rfl,rfl,rfl,rfl⟩) (z2:rs.Nodup := by decide) (z3:TmR n rs s'.tm (apL (kept tm keep) ut) := by repeat' first|exact trivial|exact rfl|exact ⟨_,rfl,RnV.wk (WkV.refl _) (Nat.zero_le _)⟩|exact ⟨_,rfl,RnV.wk (WkV.refl _) (kle rfl)⟩|exact ⟨_,rfl,RnV.wk (WkV.refl _) bdq⟩|exact ⟨_,rfl,RnV.wk (WkV.refl _) (bd_svC _ (by decide))⟩|exact ⟨_,rfl,RnV.wk (WkV.int ‹_›) (Nat.zero_le _)⟩|exact TrIw.refl _ _ _ _ _|exact OWk.same _|exact OWk.loop _ _ _ _ _ _ _ (by repeat' (first|exact trivial|exact WkV.refl _|exact WkV.unk _|apply And.intro))|exact Nat.zero_le _|exact kle rfl|exact bdq|exact mxI rfl|exact mxS rfl|exact bd_ljC _ (by decide)|exact bd_giC _ (by decide)|exact bd_svC _ (by decide)|exact qez _ (by decide)|apply And.intro|exact ⟨_,rfl,RnV.wk (WkV.refl _) (bz (nl_no (zl H)))⟩|exact ⟨_,rfl,rnC (j :=0) (by decide) rfl rfl ⟨trivial,trivial⟩⟩|exact ⟨_,rfl,rnC (j :=0) (by decide) rfl rfl (qau _)⟩|exact ⟨_,rfl,rnI (j :=0) (by decide) rfl rfl⟩) (z4:TrIw b W s'.h 0 1 (tput uh h) := by repeat' first|exact trivial|exact rfl|exact ⟨_,rfl,RnV.wk (WkV.refl _) (Nat.zero_le _)⟩|exact ⟨_,rfl,RnV.wk (WkV.refl _) (kle rfl)⟩|exact ⟨_,rfl,RnV.wk (WkV.refl _) bdq⟩|exact ⟨_,rfl,RnV.wk (WkV.refl _) (bd_svC _ (by decide))⟩|exact ⟨_,rfl,RnV.wk (WkV.int ‹_›) (Nat.zero_le _)⟩|exact TrIw.refl _ _ _ _ _|exact OWk.same _|exact OWk.loop _ _ _ _ _ _ _ (by repeat' (first|exact trivial|exact WkV.refl _|exact WkV.unk _|apply And.intro))|exact Nat.zero_le _|exact kle rfl|exact bdq|exact mxI rfl|exact mxS rfl|exact bd_ljC _ (by decide)|exact bd_giC _ (by decide)|exact bd_svC _ (by decide)|exact qez _ (by decide)|apply And.intro|exact qt4 _ _) (z5:BdL n uh := by repeat' first|exact trivial|exact rfl|exact ⟨_,rfl,RnV.wk (WkV.refl _) (Nat.zero_le _)⟩|exact ⟨_,rfl,RnV.wk (WkV.refl _) (kle rfl)⟩|exact ⟨_,rfl,RnV.wk (WkV.refl _) bdq⟩|exact ⟨_,rfl,RnV.wk (WkV.refl _) (bd_svC _ (by decide))⟩|exact ⟨_,rfl,RnV.wk (WkV.int ‹_›) (Nat.zero_le _)⟩|exact TrIw.refl _ _ _ _ _|exact OWk.same _|exact OWk.loop _ _ _ _ _ _ _ (by repeat' (first|exact trivial|exact WkV.refl _|exact WkV.unk _|apply And.intro))|exact Nat.zero_le _|exact kle rfl|exact bdq|exact mxI rfl|exact mxS rfl|exact bd_ljC _ (by decide)|exact bd_giC _ (by decide)|exact bd_svC _ (by decide)|exact qez _ (by decide)|apply And.intro) (z6:qjd (tput uh h) n = true := by kernel_rfl) (z7:ZnL n s'.h rs ux := by repeat' first|exact trivial|exact rfl|exact ⟨_,rfl,RnV.wk (WkV.refl _) (Nat.zero_le _)⟩|exact ⟨_,rfl,RnV.wk (WkV.refl _) (kle rfl)⟩|exact ⟨_,rfl,RnV.wk (WkV.refl _) bdq⟩|exact ⟨_,rfl,RnV.wk (WkV.refl _) (bd_svC _ (by decide))⟩|exact ⟨_,rfl,RnV.wk (WkV.int ‹_›) (Nat.zero_le _)⟩|exact TrIw.refl _ _ _ _ _|exact OWk.same _|exact OWk.loop _ _ _ _ _ _ _ (by repeat' (first|exact trivial|exact WkV.refl _|exact WkV.unk _|apply And.intro))|exact Nat.zero_le _|exact kle rfl|exact bdq|exact mxI rfl|exact mxS rfl|exact bd_ljC _ (by decide)|exact bd_giC _ (by decide)|exact bd_svC _ (by decide)|exact qez _ (by decide)|apply And.intro|exact qt4 _ _) (z8:ZxL (appT ux n (tput uh h)) n ux := by repeat' first|exact trivial|exact rfl|exact ⟨_,rfl,RnV.wk (WkV.refl _) (Nat.zero_le _)⟩|exact ⟨_,rfl,RnV.wk (WkV.refl _) (kle rfl)⟩|exact ⟨_,rfl,RnV.wk (WkV.refl _) bdq⟩|exact ⟨_,rfl,RnV.wk (WkV.refl _) (bd_svC _ (by decide))⟩|exact ⟨_,rfl,RnV.wk (WkV.int ‹_›) (Nat.zero_le _)⟩|exact TrIw.refl _ _ _ _ _|exact OWk.same _|exact OWk.loop _ _ _ _ _ _ _ (by repeat' (first|exact trivial|exact WkV.refl _|exact WkV.unk _|apply And.intro))|exact Nat.zero_le _|exact kle rfl|exact bdq|exact mxI rfl|exact mxS rfl|exact bd_ljC _ (by decide)|exact bd_giC _ (by decide)|exact bd_svC _ (by decide)|exact qez _ (by decide)|apply And.intro):AtR D tm rd h n b W keep ut uh ux rs s' :=⟨z1.1,z1.2.1,z1.2.2.1,z1.2.2.2.1,z1.2.2.2.2.1,z1.2.2.2.2.2,z2,z3,z4,z5,z6,z7,z8⟩
end
end Go.Abs

/-! Loops, with heads whose old objects need not be looked at for what they refer to. -/
namespace Go.Abs
open Go
noncomputable section
section
variable {D:List ADf} {tm:Tr AV} {rd:Bool} {h:Tr AObj} {n b:Nat} {W:List Nat} {s':AS} {keep:List Nat} {ut:List (Nat × AV)} {uh:List (Nat × AObj)} {ux:List AObj}
theorem AtZ.at (ha:AtZ D tm rd h n b W keep ut uh ux s'):∀ i,i < n + ux.length → ∃ x,(appT ux n (tput uh h)).get i = some x ∧ (∃ y,s'.h.get i = some y ∧ atR b W i y x) ∧ ((∀ i,i < n → OBd n (hv h i)) → (∀ i,n ≤ i → h.get i = none) → OBd (n + ux.length) x) :=fun i hi => by
 obtain ⟨N,e,h1,h2,h3,h4,h5⟩ :=ha.all
 rw [qb2] at e
 subst e
 obtain ⟨x,hx⟩ :=qjd.lt h5 i hi
 refine ⟨x,hx,?_,fun hOB hend => ?_⟩
 ·obtain ⟨y,k1,k2⟩ :=TrIw.get i _ _ 0 1 h2 x hx
  rw [Nat.zero_add,Nat.one_mul] at k2
  exact ⟨y,k1,k2⟩
 ·rcases qnf ux n _ i x hx with k | k
  ·rcases (qcm _ _ _ _ k).2 with k | ⟨_,k⟩
   ·exact (h3.mem i x k).ok
   ·have hin:i < n :=Nat.lt_of_not_le fun hle => by rw [hend i hle] at k;cases k
    have :=hOB i hin
    unfold hv at this
    rw [k] at this
    exact this.mono (Nat.le_add_right _ _)
  ·exact (h4.mem x k).ok
theorem AtZ.wk (ha:AtZ D tm rd h n b W keep ut uh ux s'):∀ i,i < n + ux.length → OWk (hv s'.h i) (hv (qec D tm rd h n b W keep ut uh ux).h i) :=fun i hi => by
 obtain ⟨x,k1,⟨y,k2,k3⟩,_⟩ :=ha.at i hi
 show OWk (hv s'.h i) (hv (appT ux n (tput uh h)) i)
 unfold hv
 rw [k1,k2]
 exact k3.1
theorem AtZ.same (ha:AtZ D tm rd h n b W keep ut uh ux s'):∀ x,x < n + ux.length → x < b → x ∉ W → hv (qec D tm rd h n b W keep ut uh ux).h x = hv s'.h x :=fun i hi hb hw => by
 obtain ⟨x,k1,⟨y,k2,k3⟩,_⟩ :=ha.at i hi
 show hv (appT ux n (tput uh h)) i = hv s'.h i
 unfold hv
 rw [k1,k2]
 exact (k3.2 hb hw).symm
theorem AtZ.tms (ha:AtZ D tm rd h n b W keep ut uh ux s'):∀ i a,(qec D tm rd h n b W keep ut uh ux).tm.get i = some a → ∃ y,s'.tm.get i = some y ∧ WkV y a ∧ bd a ≤ n + ux.length :=by
 intro i a hi
 obtain ⟨N,e,h1t,_⟩ :=ha.all
 rw [qb2] at e
 subst e
 obtain ⟨⟨y,h1⟩,h2⟩ :=qcm _ _ _ _ hi
 rcases h2 with h2 | ⟨_,h3⟩
 ·obtain ⟨⟨y,k1,k2⟩,k3⟩ :=h1t.mem i a h2
  exact ⟨y,k1,k2,k3⟩
 ·rw [qbh] at h3
  have hd:(s'.tm.get i).map (fun _ => AV.unk) = (tm.get i).map fun _ => AV.unk :=by rw [← qbh,← qbh,ha.dom]
  cases hs:tm.get i with
  |none => rw [hs] at h3;cases h3
  |some z =>
   rw [hs] at h3 hd
   simp only [Option.map_some,Option.some.injEq] at h3
   subst h3
   cases hs':s'.tm.get i with
   |none => rw [hs'] at hd;cases hd
   |some z' => exact ⟨z',rfl,WkV.unk z',Nat.zero_le _⟩
end
end
end Go.Abs

/-! Closures that append to a list that they have captured: the list's cell is one of the first objects, its chain stands wherever it does. -/
namespace Go.Abs
open Go
noncomputable section
def qvo (b:Nat → AObj) (h:Tr AObj) (a:Nat) (k:Nat):Prop :=@Nat.rec (fun _ => Prop) True (fun i ih => (i = a ∨ hv h i = b i) ∧ ih) k
theorem qvo.lt {b:Nat → AObj} {h:Tr AObj} {a:Nat}:∀ {k:Nat},qvo b h a k → ∀ i,i < k → i ≠ a → hv h i = b i
 |k + 1,hk,i,hi,hn => by
  by_cases e:i = k
  ·subst e;exact hk.1.resolve_left hn
  ·exact qvo.lt hk.2 i (by omega) hn
def qvp (m:Nat) (b:Nat → AObj) (a:Nat) (k:Nat):Prop :=@Nat.rec (fun _ => Prop) True (fun i ih => (i = a ∨ BdO m (b i)) ∧ ih) k
theorem qvp.lt {m:Nat} {b:Nat → AObj} {a:Nat}:∀ {k:Nat},qvp m b a k → ∀ i,i < k → i ≠ a → OBd m (b i)
 |k + 1,hk,i,hi,hn => by
  by_cases e:i = k
  ·subst e;exact (hk.1.resolve_left hn).ok
  ·exact qvp.lt hk.2 i (by omega) hn
section
variable {P:Program} {S:Sub} (hS:S = qbm P) {f:FuncId} {args:List AV} {h:Tr AObj} {n:Nat} {K:AEnd → Tr AObj → Nat → List Nat → Prop} {b:Nat → AObj} {m a:Nat} {ty:TypeId} {sz:Nat} {e:TypeId} {v:AV}
include hS
end
end
end Go.Abs

namespace Go.Abs
open Go
noncomputable section
theorem qct {E:Env} {S:Sub} (hS:S = qbm E.P) {x y:Code} {s:AS} {K:KE}
  (h:S.code x s fun e s' => @AEx.rec (fun _ => Prop) (S.code y s' K) (fun id => K (.exit id) s') (K .ret s') (fun l => K (.panic l) s') e):S.code (.seq x y) s K :=by
 subst hS
 intro he
 obtain ⟨e,s1,h1,h2,h3⟩ :=h he
 by_cases hn:e = .normal
 ·subst hn
  obtain ⟨e2,s2,h4,h5,h6⟩ :=h1 h2.he
  refine ⟨e2,s2,h4,h2.trans h5,fun B H hH => ?_⟩
  obtain ⟨H1,k1,k2⟩ :=h3 B H hH
  obtain ⟨H2,k3,k4⟩ :=h6 B H1 k1
  exact ⟨H2,k3,Sem.seq k2 k4⟩
 ·refine ⟨e,s1,?_,h2,fun B H hH => ?_⟩
  ·cases e <;> first
    |exact absurd rfl hn
    |exact h1
  ·obtain ⟨H1,k1,k2⟩ :=h3 B H hH
   exact ⟨H1,k1,Sem.seq_exit k2 hn⟩
end
end Go.Abs
/-! Parts of code that are not yet carried out: blocks, and loops. -/
namespace Go.Abs
open Go
noncomputable section
section
variable {D:List ADf} {tm:Tr AV} {rd:Bool} {h:Tr AObj} {n b:Nat} {W:List Nat} {s':AS} {keep:List Nat} {ut:List (Nat × AV)} {uh:List (Nat × AObj)} {ux:List AObj} {rs:List Nat}
end
end
end Go.Abs

/-! Walks through maps: any entry may come next. -/
namespace Go.Abs
open Go
noncomputable section
theorem qip (P:Program) (w:World) {n:Nat} (hn:0 < n):∃ i w',(choose (.mapNext n)).run P w = .ok i w' ∧ i < n ∧ (w' = w ∨ w' = w.drew) :=by
 rw [run_choose_drew]
 by_cases h:(Question.mapNext n).forced = true
 ·rw [if_pos h];exact ⟨0,w,rfl,hn,.inl rfl⟩
 ·rw [if_neg h];exact ⟨_,w.drew,rfl,Nat.mod_lt _ hn,.inr rfl⟩
theorem qu0 {P : Program} {w : World} {r m since last ck : Nat} {t : TypeId} {es : Array MapEntry} {seen : List Nat} (hb : Born es ck) (hs : ck ≤ since) (hl : seen = [] ∨ 0 < last ∨ ck = 0)
    (h1:w.heap[r]? = some (.mapIter (some m) since seen.reverse.toArray last)) (h2:w.heap[m]? = some (.map es ck)) :
    ∃ w',(w' = w ∨ w' = w.drew) ∧
      (((∀ j,j < ck → j ∈ seen) ∧ (Instr.next (.pointer (some ⟨r,0,none⟩)) false t).run P w = .ok (.tuple #[.bool false]) w') ∨
      ∃ j e,j ∉ seen ∧ es[j]? = some e ∧ (Instr.next (.pointer (some ⟨r,0,none⟩)) false t).run P w =
        .ok (.tuple #[.bool true,e.key,e.val]) { w' with heap :=w'.heap.setIfInBounds r (.mapIter (some m) since (j :: seen).reverse.toArray ck) }) :=by
  have hgone:(!seen.reverse.toArray.isEmpty && !es.isEmpty && es.all (·.born ≥ last)) = false :=by
    rcases hl with hl | hl | hl
    rotate_left 2
    · have:es.size = 0 :=by rw [← hb.1];exact hl
      simp [Array.isEmpty,this]
    · subst hl;simp
    · cases hes:es[0]? with
      | none => have : es.size = 0 := by simpa using hes
                simp [Array.isEmpty,this]
      | some e =>
        have h0 :=hb.2 0 e hes
        have:es.all (·.born ≥ last) = false :=by
          rw [Array.all_eq_false]
          obtain ⟨hlt,he⟩ :=Array.getElem?_eq_some_iff.1 hes
          exact ⟨0,hlt,by rw [he,h0];simp;omega⟩
        rw [this,Bool.and_false]
  obtain ⟨left,hleft⟩ : ∃ left,left = es.filter fun e => !seen.reverse.toArray.contains e.born :=⟨_,rfl⟩
  have hmem:∀ e,e ∈ left → ∃ j,j ∉ seen ∧ es[j]? = some e ∧ e.born = j ∧ j < ck :=fun e he => by
    rw [hleft] at he
    obtain ⟨h3,h4⟩ :=Array.mem_filter.1 he
    obtain ⟨j,hj,e1⟩ :=Array.mem_iff_getElem.1 h3
    have h5:es[j]? = some e :=by rw [← e1];exact Array.getElem?_eq_getElem hj
    have h6 :=hb.2 j e h5
    refine ⟨j,?_,h5,h6,by rw [hb.1];exact hj⟩
    rw [h6] at h4
    simpa using h4
  have hnew:left.filter (·.born ≥ since) = #[] :=by
    rw [Array.filter_eq_empty_iff]
    intro e he
    obtain ⟨j,_,_,h3,h4⟩ :=hmem e he
    simp only [ge_iff_le,decide_eq_true_eq]
    omega
  have hold:left.filter (·.born < since) = left :=by
    rw [Array.filter_eq_self]
    intro e he
    obtain ⟨j,_,_,h3,h4⟩ :=hmem e he
    simp only [decide_eq_true_eq]
    omega
  have hrun : (Instr.next (.pointer (some ⟨r, 0, none⟩)) false t).run P w = ((choose (.mapNext ((if left.isEmpty then #[none] else #[]) ++ left.map some).size)).run P w).andThen fun i w' =>
      (match ((if left.isEmpty then #[none] else #[]) ++ left.map some)[i]? with
      | some (some e) => (do
        setObj r (.mapIter (some m) since (seen.reverse.toArray.push e.born) ck)
        pure (.tuple #[.bool true,e.key,e.val]):Go.Sem Value)
      | some none => pure (.tuple #[.bool false])
      | none => stuck "Next: no such candidate").run P w' :=by
    simp only [Instr.next,Sem.run_bind,getObj,Sem.run,h1,Result.andThen_ok,h2,hgone,Bool.false_eq_true,if_false,← hleft,hold,hnew,Array.append_empty]
    rfl
  rw [hrun]
  by_cases hemp:left = #[]
  · refine ⟨w,.inl rfl,.inl ⟨fun j hj => ?_,?_⟩⟩
    · apply Classical.byContradiction
      intro hns
      have hjs:j < es.size :=by rw [← hb.1];exact hj
      have h3:es[j] ∈ left :=by
        rw [hleft]
        exact Array.mem_filter.2 ⟨Array.getElem_mem hjs,by
          rw [hb.2 j _ (Array.getElem?_eq_getElem hjs)];simpa using hns⟩
      rw [hemp] at h3
      simp at h3
    · have hc:(choose (.mapNext 1)).run P w = .ok 0 w :=by rw [run_choose_drew];rfl
      subst hemp
      simp [hc,-run_choose,-run_choose_drew]
  · have hne:left.isEmpty = false :=by simpa using hemp
    have hsz:0 < (left.map some).size :=by
      rw [Array.size_map]
      exact Array.size_pos_iff.2 hemp
    obtain ⟨i,w',q1,q2,q3⟩ :=qip P w hsz
    have hi:i < left.size :=by simpa using q2
    obtain ⟨j,k1,k2,k3,k4⟩ :=hmem left[i] (Array.getElem_mem hi)
    refine ⟨w',q3,.inr ⟨j,left[i],k1,k2,?_⟩⟩
    have hw:w'.heap = w.heap :=by rcases q3 with e | e <;> subst e <;> rfl
    have hg:(left.map some)[i]? = some (some left[i]) :=by simp [hi]
    have h1':w'.heap[r]? = some (Obj.mapIter (some m) since seen.reverse.toArray last) :=by rw [hw];exact h1
    simp only [hne,Bool.false_eq_true,if_false,Array.empty_append,q1,Result.andThen_ok,hg,k3,Sem.run_bind]
    simp [setObj,Sem.run,h1']
/-! ### All ways lead to one end -/
def cutH (s:AS):AH :=⟨s.n,s.n,hv s.h⟩
def SemB (P:Program) (its:List Item) (s0 s:AS) (e:AEx) (s':AS):Prop :=
 ∀ (B:Nat) (H0 H:AH),H0.o = hv s0.h → H.o = hv s.h → ∀ g0 w0 g fr cs w k,Out g0 B w0 H0 g w H → FrRel g B w (s.st H) fr cs → fr.mode = .run → fr.todo = its ++ k →
  (∀ l,s.pm ≠ .pan l) → (e = .ret → fr.roundOf = none) → ∀ k',tgt e k = some k' →
  ∃ g' fr' cs' w',FrRel g' B w' (s'.st (cutH s')) fr' cs' ∧ Out g0 B w0 H0 g' w' (cutH s') ∧ SameFr fr fr' ∧ cs' = cs ∧ ExOk g' w' (cutH s').L e fr' k' ∧ Steps P (lone fr cs w) (lone fr' cs' w')
theorem CsOk.eq {pm:APm} {cs cs':List Frame} (h:CsOk pm cs cs') (hp:∀ l,pm ≠ .pan l):cs' = cs :=by
 cases pm with
 |pan l => exact absurd rfl (hp l)
 | _ => exact h
def Less (s0 s s':AS):Prop :=
 ∀ (B:Nat) (H0 H:AH),H0.o = hv s0.h → H.o = hv s.h → ∀ g0 w0 g fr cs w,Out g0 B w0 H0 g w H → FrRel g B w (s.st H) fr cs → FrRel g B w (s'.st (cutH s')) fr cs ∧ Out g0 B w0 H0 g w (cutH s')
section
variable {P:Program} {its its1:List Item} {s0 s s1 s':AS} {e:AEx}
theorem SemB.enter (h:SemB P its s s e s') (hp:s.pm = .no) (hp':s'.pm = .no):SemR P its s e s' :=fun B H hH => by
 refine ⟨cutH s',rfl,fun g fr cs w k hr hm ht hro k' hk => ?_⟩
 obtain ⟨g',fr',cs',w',h1,h2,h3,h4,h5,h6⟩ :=h B H H hH hH g w g fr cs w k (Out.refl hr.h) hr hm ht (by rw [hp];simp) hro k' hk
 refine ⟨g',fr',cs',w',h1,h2,h3,?_,?_,h5,h6⟩
 ·show CsOk s.pm cs cs'
  rw [hp];exact h4
 ·intro _ l
  show s'.pm ≠ .pan l
  rw [hp'];simp
theorem SemB.run (h:SemR P its1 s .normal s1) (k:SemB P its s0 s1 e s'):SemB P (its1 ++ its) s0 s e s' :=by
 intro B H0 H hH0 hH g0 w0 g fr cs w kk ho hr hm ht hp hro k' hk
 obtain ⟨H1,q1,q2⟩ :=h B H hH
 obtain ⟨g1,fr1,cs1,w1,h1,h2,h3,h4,h5,h6,h7⟩ :=q2 g fr cs w (its ++ kk) hr hm (by rw [ht,List.append_assoc]) (fun e => by cases e) _ rfl
 have h4:cs1 = cs :=h4.eq hp
 obtain ⟨g2,fr2,cs2,w2,f1,f2,f3,f4,f5,f6⟩ :=k B H0 H1 hH0 q1 g0 w0 g1 fr1 cs1 w1 kk (ho.trans h2) h1 h6.1 h6.2 (h5 hp) (fun e => h3.round.trans (hro e)) k' hk
 exact ⟨g2,fr2,cs2,w2,f1,f2,h3.trans f3,f4.trans h4,f5,h7.trans f6⟩
theorem SemB.less (h:Less s0 s s1) (hp1:∀ l,s1.pm ≠ .pan l) (k:SemB P its s0 s1 e s'):SemB P its s0 s e s' :=by
 intro B H0 H hH0 hH g0 w0 g fr cs w kk ho hr hm ht hp hro k' hk
 obtain ⟨h1,h2⟩ :=h B H0 H hH0 hH g0 w0 g fr cs w ho hr
 exact k B H0 (cutH s1) hH0 rfl g0 w0 g fr cs w kk h2 h1 hm ht hp1 hro k' hk
theorem SemB.out {c c':Code} {id:Nat} (h:SemR P [.code c] s (.exit id) s1) (hl:Less s0 s1 s'):SemB P [.code c,.inLoop c'] s0 s (.exit id) s' :=by
 intro B H0 H hH0 hH g0 w0 g fr cs w kk ho hr hm ht hp hro k' hk
 obtain ⟨H1,q1,q2⟩ :=h B H hH
 have q3:SemT P B ([.code c] ++ [.inLoop c']) (s.st H) (.exit id) (s1.st H1) :=SemT.pass q2 (qfc c' (by simp))
 obtain ⟨g1,fr1,cs1,w1,h1,h2,h3,h4,_,h6,h7⟩ :=q3 g fr cs w kk hr hm ht hro k' hk
 have h4:cs1 = cs :=h4.eq hp
 obtain ⟨f1,f2⟩ :=hl B H0 H1 hH0 q1 g0 w0 g1 fr1 cs1 w1 (ho.trans h2) h1
 exact ⟨g1,fr1,cs1,w1,f1,f2,h3,h4,h6,h7⟩
theorem SemB.round {c:Code} (k:SemB P [.code c,.inLoop c] s0 s e s'):SemB P [.inLoop c] s0 s e s' :=by
 intro B H0 H hH0 hH g0 w0 g fr cs w kk ho hr hm ht hp hro k' hk
 have hst:Steps P (lone fr cs w) (lone { fr with todo :=[.code c,.inLoop c] ++ kk } cs w) :=qa2 (by
  simp only [List.cons_append,List.nil_append] at ht
  simp [stepG,stepG.exec,hm,ht])
 obtain ⟨g2,fr2,cs2,w2,f1,f2,f3,f4,f5,f6⟩ :=k B H0 H hH0 hH g0 w0 g { fr with todo :=[.code c,.inLoop c] ++ kk } cs w kk ho (hr.todo _) hm rfl hp hro k' hk
 exact ⟨g2,fr2,cs2,w2,f1,f2,⟨f3.fn,f3.kind,f3.round⟩,f4,f5,hst.trans f6⟩
theorem SemB.seq {c1 c2:Code} (k:SemB P (.code c1 :: .code c2 :: its) s0 s e s'):SemB P (.code (.seq c1 c2) :: its) s0 s e s' :=by
 intro B H0 H hH0 hH g0 w0 g fr cs w kk ho hr hm ht hp hro k' hk
 have hst:Steps P (lone fr cs w) (lone { fr with todo :=.code c1 :: .code c2 :: (its ++ kk) } cs w) :=qa2 (by
  simp only [List.cons_append] at ht
  simp [stepG,stepG.exec,hm,ht])
 obtain ⟨g2,fr2,cs2,w2,f1,f2,f3,f4,f5,f6⟩ :=k B H0 H hH0 hH g0 w0 g { fr with todo :=.code c1 :: .code c2 :: (its ++ kk) } cs w kk ho (hr.todo _) hm rfl hp hro k' hk
 exact ⟨g2,fr2,cs2,w2,f1,f2,⟨f3.fn,f3.kind,f3.round⟩,f4,f5,hst.trans f6⟩
theorem SemB.region {id:Nat} {ops:Array Oper} (k:SemB P (.inRegion ops (List.range ops.size) :: its) s0 s e s'):SemB P (.code (.region id ops false) :: its) s0 s e s' :=by
 intro B H0 H hH0 hH g0 w0 g fr cs w kk ho hr hm ht hp hro k' hk
 have hst:Steps P (lone fr cs w) (lone { fr with todo :=.inRegion ops (List.range ops.size) :: (its ++ kk) } cs w) :=qa2 (by
  simp only [List.cons_append] at ht
  simp [stepG,stepG.exec,hm,ht])
 obtain ⟨g2,fr2,cs2,w2,f1,f2,f3,f4,f5,f6⟩ :=k B H0 H hH0 hH g0 w0 g { fr with todo :=.inRegion ops (List.range ops.size) :: (its ++ kk) } cs w kk ho (hr.todo _) hm rfl hp hro k' hk
 exact ⟨g2,fr2,cs2,w2,f1,f2,⟨f3.fn,f3.kind,f3.round⟩,f4,f5,hst.trans f6⟩
theorem MRel.ex {g:Gh} {w:World}:∀ {es:List (AV × AV)} {ces:List MapEntry} {j:Nat} {e:MapEntry},MRel g w es ces → ces[j]? = some e → ∃ k v,es[j]? = some (k,v) ∧ VRel g w k e.key ∧ VRel g w v e.val
 | [],ces,j,e,h,hj => by simp only [MRel] at h;subst h;simp at hj
 |(k,v) :: es,ces,0,e,h,hj => by
  obtain ⟨e',es',e1,h1,h2,h3⟩ :=h
  subst e1
  simp at hj
  subst hj
  exact ⟨k,v,by simp,h1,h2⟩
 |(k,v) :: es,ces,j + 1,e,h,hj => by
  obtain ⟨e',es',e1,h1,h2,h3⟩ :=h
  subst e1
  obtain ⟨k',v',q1,q2,q3⟩ :=MRel.ex h3 (by simpa using hj)
  exact ⟨k',v',by simpa using q1,q2,q3⟩
theorem SemB.next {ops:Array Oper} {i:Nat} {rest:List Nat} {o:Oper} {it:Operand} {q m since last:Nat} {seen:List Nat} {es:List (AV × AV)} (ho:ops[i]? = some o) (hop:o.op = .next it false)
  (hg:qa9 ops s.tm o = some true) (hit:aev s.tm it = .ptr q 0) (hq:hv s.h q = .miter m since seen last) (hmo:hv s.h m = .mapo es) (hs:es.length ≤ since) (hl:0 < last ∨ es = [])
  (step:∀ j k v,es[j]? = some (k,v) → j ∉ seen → ∃ tm' h',SetD s.tm o.dst (.tup [.bool true,k,v]) tm' ∧ hv h' = upd (hv s.h) q (.miter m since (j :: seen) es.length) ∧
   SemB P (.inRegion ops rest :: its) s0 { s with tm :=tm',h :=h' } e s')
  (stop:(∀ j,j < es.length → j ∈ seen) → ∃ tm',SetD s.tm o.dst (.tup [.bool false]) tm' ∧ SemB P (.inRegion ops rest :: its) s0 { s with tm :=tm' } e s') :
  SemB P (.inRegion ops (i :: rest) :: its) s0 s e s' :=by
 intro B H0 H hH0 hH g0 w0 g fr cs w kk ho0 hr hm ht hp hro k' hk
 have ht':fr.todo = .inRegion ops (i :: rest) :: (its ++ kk) :=ht
 have hLq:H.L q :=by unfold AH.L;rw [hH,hq];simp
 have hLm:H.L m :=by unfold AH.L;rw [hH,hmo];simp
 have rq :=hr.h.rel q
 have e1:(s.st H).H.o q = .miter m since seen last :=by show H.o q = _;rw [hH,hq]
 rw [e1] at rq
 obtain ⟨sn0,l0,rq0,rq1,rq2⟩ :=rq
 have rm :=hr.h.rel m
 have e2:(s.st H).H.o m = .mapo es :=by show H.o m = _;rw [hH,hmo]
 rw [e2] at rm
 obtain ⟨ces,ck,rm1,rm2,rm3,rm4⟩ :=rm
 have hck:ck = es.length :=by rw [rm4.1,← rm3.length,Array.length_toList]
 have hev:fr.eval it = .pointer (some ⟨g.ob q,0,none⟩) :=by
  have h :=hr.tm.ev (a :={ tmps :=fr.tmps,defers :=fr.defers }) it
  have hit':aev (s.st H).tm it = .ptr q 0 :=hit
  rw [hit'] at h
  simp only [VRel] at h
  cases it <;> exact h
 have hst :=qbv (P :=P) (cs :=cs) (w :=w) hm ht' ho (qb1 hr.tm hg) (.inr (by intro c hc;rw [hop] at hc;cases hc))
 have hsn:es = [] ∨ sn0 = seen :=by
  rcases hl with hl | hl
  ·exact .inr (rq0 (by omega)).1
  ·exact .inl hl
 have hlz:sn0 = [] ∨ 0 < l0 ∨ ck = 0 :=by
  rcases hl with hl | hl
  ·have :=(rq0 (by omega)).2
   exact .inr (.inl (by omega))
  ·exact .inr (.inr (by rw [hck,hl];rfl))
 obtain ⟨w1,hw1,hcase⟩ :=qu0 (P :=P) (t :=o.type) rm4 (by omega:ck ≤ since) hlz rq1 rm1
 have hout1:Out g B w H g w1 H :=by
  rcases hw1 with e | e
  ·subst e;exact Out.refl hr.h
  ·subst e;exact Out.drew hr.h
 rcases hcase with ⟨hall,hrun⟩ | ⟨j,en,hjn,hje,hrun⟩
 ·obtain ⟨tm',k1,k2⟩ :=stop fun j hj => by
   rcases hsn with e | e
   ·rw [e] at hj;exact absurd hj (Nat.not_lt_zero _)
   ·rw [← e];exact hall j (by omega)
  have hx:(execOp fr.eval o).run P w = .ok (.value (.tuple #[.bool false])) w1 :=by
   unfold execOp
   simp only [hop,hev,Sem.run_bind,hrun,Result.andThen_ok,Sem.run_pure]
  have hr1 :=hr.out hout1
  have hv:VRel g w1 (.tup [.bool false]) (.tuple #[.bool false]) :=by
   simp only [VRel];exact ⟨_,rfl,by simp [VRels,VRel]⟩
  have hfin :=hr1.finish (o :=o) ht' ho hv ⟨trivial,trivial⟩ k1
  obtain ⟨g2,fr2,cs2,w2,f1,f2,f3,f4,f5,f6⟩ :=k2 B H0 H hH0 hH g0 w0 g (fr.finish (.tuple #[.bool false])) cs w1 kk (ho0.trans hout1) hfin (by rw [qav ht' ho];exact hm) (by rw [qav ht' ho];rfl)
   hp (by rw [qav ht' ho];exact hro) k' hk
  refine ⟨g2,fr2,cs2,w2,f1,f2,?_,f4,f5,(qa2 ?_).trans f6⟩
  ·rw [qav ht' ho] at f3;exact ⟨f3.fn,f3.kind,f3.round⟩
  ·rw [hst];simp [stepG.apply,hx]
 ·obtain ⟨k,v,k1,k2,k3⟩ :=rm3.ex (by simpa using hje)
  have hsn:sn0 = seen :=by
   rcases hsn with e | e
   ·rw [e] at k1;simp at k1
   ·exact e
  have hsn':seen = sn0 :=hsn.symm
  subst hsn'
  obtain ⟨tm',h',n1,n2,n3⟩ :=step j k v k1 hjn
  have hlm :=hr.h.live m
  rw [e2] at hlm
  obtain ⟨l1,l2⟩ :=qch.at _ _ _ _ hlm k1
  generalize hw2:({ w1 with heap :=w1.heap.setIfInBounds (g.ob q) (.mapIter (some (g.ob m)) since (j :: seen).reverse.toArray ck) }:World) = w2 at hrun
  have hx:(execOp fr.eval o).run P w = .ok (.value (.tuple #[.bool true,en.key,en.val])) w2 :=by
   unfold execOp
   simp only [hop,hev,Sem.run_bind,hrun,Result.andThen_ok,Sem.run_pure]
  have hr1 :=hr.out hout1
  have hlt:g.ob q < w1.heap.size :=by
   have :=(hr1.h.ge q (by show H.o q ≠ _;exact hLq)).2
   have e3:({ s.st H with H :=H }:St).H.o q = .miter m since seen last :=e1
   rw [e3] at this
   exact this
  have hkq :=hr.h.kp q
  rw [e1] at hkq
  have hout2:Out g B w1 H g w2 (H.put q (.miter m since (j :: seen) ck) 0) :=by
   subst hw2
   refine HRel.setOb (H :=H) hr1.h hLq (by rw [show H.o q = _ from e1];rfl) rq2 (by simp) rfl 0 (by simp) (fun k hk => ?_) rfl rfl rfl ?_ ?_ ?_
   ·show (w1.heap.setIfInBounds (g.ob q) _)[k]? = _
    rw [Array.getElem?_setIfInBounds_ne (by omega)]
   ·intro _
    refine ⟨j :: seen,ck,fun _ => ⟨rfl,rfl⟩,?_,rq2⟩
    show (w1.heap.setIfInBounds (g.ob q) _)[g.ob q]? = _
    rw [Array.getElem?_setIfInBounds_self_of_lt hlt]
   ·exact AH.put_L H q 0 (by simp) hLm
   ·have :=AH.put_keep H q (.miter m since (j :: seen) ck) 0
    have hkq:m < max (q + 1) H.keep :=hkq
    show m < max (q + 1) _
    omega
  have hout :=hout1.trans hout2
  have hr2 :=hr.out hout
  have hvr:VRel g w2 (.tup [.bool true,k,v]) (.tuple #[.bool true,en.key,en.val]) :=by
   simp only [VRel]
   exact ⟨_,rfl,by simp only [VRels];exact ⟨_,_,rfl,rfl,_,_,rfl,k2.ext hout.ext _ _ l1,_,_,rfl,k3.ext hout.ext _ _ l2,rfl⟩⟩
  have hlv:Live (H.put q (.miter m since (j :: seen) ck) 0).L (.tup [.bool true,k,v]) :=⟨trivial,l1.mono hout.L,l2.mono hout.L,trivial⟩
  have hfin :=hr2.finish (o :=o) ht' ho hvr hlv n1
  have hH2:(H.put q (.miter m since (j :: seen) ck) 0).o = hv h' :=by
   rw [n2,← hH,← hck];rfl
  obtain ⟨g2,fr2,cs2,w3,f1,f2,f3,f4,f5,f6⟩ :=n3 B H0 _ hH0 hH2 g0 w0 g (fr.finish (.tuple #[.bool true,en.key,en.val])) cs w2 kk (ho0.trans hout) hfin (by rw [qav ht' ho];exact hm) (by rw [qav ht' ho];rfl)
   hp (by rw [qav ht' ho];exact hro) k' hk
  refine ⟨g2,fr2,cs2,w3,f1,f2,?_,f4,f5,(qa2 ?_).trans f6⟩
  ·rw [qav ht' ho] at f3;exact ⟨f3.fn,f3.kind,f3.round⟩
  ·rw [hst];simp [stepG.apply,hx]
end
section
variable {tm:Tr AV} {rd:Bool} {h:Tr AObj} {n b:Nat} {W:List Nat} {s0 s1:AS} {keep:List Nat} {ut:List (Nat × AV)} {uh:List (Nat × AObj)}
theorem Less.of (ha:AtG tm rd h n b W keep ut uh [] s1) (he:HEnd h n) (hl:∀ i,n ≤ i → hv s0.h i = .hole):Less s0 s1 (qci tm rd h n b W keep ut uh []) :=by
 intro B H0 H hH0 hH g0 w0 g fr cs w ho hr
 have hob :=ha.obj he
 have e0:n + ([]:List AObj).length = n :=rfl
 rw [e0] at hob
 have hc:cutH (qci tm rd h n b W keep ut uh []) = ⟨n,n,fun i => if i < n then H.o i else .hole⟩ :=by
  show AH.mk n n _ = _
  rw [hob,hH]
 refine ⟨?_,?_⟩
 ·exact hr.cutW (m :=n) hc (fun i hi => by show OBd n (H.o i);rw [hH];exact ha.bd i hi) ha.tms ha.df rfl rfl ha.rd.symm
 ·rw [hc]
  refine ho.cutAt (fun i hi => by rw [hH];exact ha.bd i hi) fun i hi => ?_
  apply Nat.lt_of_not_le
  intro hle
  have hi:H0.o i ≠ .hole :=hi
  rw [hH0] at hi
  exact hi (hl i hle)
theorem Less.ofY (ha:AtY [] tm rd h n b W keep ut uh [] s1) (he:HEnd h n) (hl:∀ i,n ≤ i → hv s0.h i = .hole):Less s0 s1 (qci tm rd h n b W keep ut uh []) :=by
 intro B H0 H hH0 hH g0 w0 g fr cs w ho hr
 have hob :=AtY.obj (D :=[]) (tm :=tm) (rd :=rd) (b :=b) (W :=W) (keep :=keep) (ut :=ut) (uh :=uh) (ux :=[]) he
 have e0:n + ([]:List AObj).length = n :=rfl
 rw [e0] at hob
 have hc:cutH (qci tm rd h n b W keep ut uh []) = ⟨n,n,fun i => if i < n then hv (qci tm rd h n b W keep ut uh []).h i else .hole⟩ :=by
  show AH.mk n n _ = _
  exact congrArg (AH.mk n n) hob
 have hwk:∀ i,i < n → OWk (H.o i) (hv (qci tm rd h n b W keep ut uh []).h i) :=fun i hi => by rw [hH];exact ha.wk i hi
 refine ⟨?_,?_⟩
 ·exact FrRel.cutY (D :=[]) hr (m :=n) hc hwk ha.bd ha.tms trivial ha.df rfl rfl ha.rd.symm
 ·rw [hc]
  refine ho.cutO hwk ha.bd fun i hi => ?_
  apply Nat.lt_of_not_le
  intro hle
  have hi:H0.o i ≠ .hole :=hi
  rw [hH0] at hi
  exact hi (hl i hle)
end
theorem qnk {E:Env} (hE:E.Ok) {S:Sub} (hS:S = qbm E.P) {A:Type} {rid:Nat} {ops:Array Oper} {o:Oper} {os:List Oper} {c2:Code} {it:Operand} {f:AS → KE → Prop} {tm:Tr AV} {df:List ADf} {pm:APm} {rd:Bool} {h:Tr AObj} {n b:Nat} {W:List Nat} {K:KE}
  (hops:ops.toList = o :: os) (hop:o.op = .next it false) (hgd:o.guard = none)
  (q m since eid:Nat) (es:List (AV × AV)) (hs:es.length ≤ since)
  (keep:List Nat) (ut:A → List (Nat × AV)) (uh:A → List (Nat × AObj)) (seen:A → List Nat) (last:A → Nat) (I:A → Prop) (mu:A → Nat) (a0:A) (utE:List (Nat × AV)) (uhE:List (Nat × AObj)) (_hbn:b ≤ n)
  (hwr:∀ x,x ∈ qh4 uhE → b ≤ x ∨ x ∈ W)
  (h0:AtG tm rd h n b W keep (ut a0) (uh a0) [] ⟨tm,df,pm,rd,h,n,b,W⟩) (hI:I a0)
  (hq:∀ a,I a → aev (tput (apL (kept tm keep) (ut a)) (unkT tm)) it = .ptr q 0 ∧ (tput (uh a) h).get q = some (.miter m since (seen a) (last a)) ∧ (tput (uh a) h).get m = some (.mapo es) ∧ (0 < last a ∨ es = []))
  (step:∀ a,I a → ∀ j k v,es[j]? = some (k,v) → j ∉ seen a → ∀ N,N = n → qca (tput (apL (kept tm keep) (ut a)) (unkT tm)) o.dst (.tup [.bool true,k,v]) fun tm' =>
   (tput (uh a) h).setK q (.miter m since (j :: seen a) es.length) fun h' => qkc os E S ops ⟨tm',[],.no,rd,h',N,b,W⟩ fun e1 s1 => @AEx.rec (fun _ => Prop)
    (exC c2 E S s1 fun e2 s2 => @AEx.rec (fun _ => Prop) (∃ a',I a' ∧ mu a' < mu a ∧ AtG tm rd h n b W keep (ut a') (uh a') [] s2) (fun id => id = eid ∧ AtY [] tm rd h n b W keep utE uhE [] s2) False (fun _ => False) e2)
    (fun _ => False) False (fun _ => False) e1)
  (stop:∀ a,I a → (∀ j,j < es.length → j ∈ seen a) → ∀ N,N = n → qca (tput (apL (kept tm keep) (ut a)) (unkT tm)) o.dst (.tup [.bool false]) fun tm' =>
   qkc os E S ops ⟨tm',[],.no,rd,tput (uh a) h,N,b,W⟩ fun e1 s1 => @AEx.rec (fun _ => Prop)
    (exC c2 E S s1 fun e2 s2 => @AEx.rec (fun _ => Prop) (∃ a',I a' ∧ mu a' < mu a ∧ AtG tm rd h n b W keep (ut a') (uh a') [] s2) (fun id => id = eid ∧ AtY [] tm rd h n b W keep utE uhE [] s2) False (fun _ => False) e2)
    (fun _ => False) False (fun _ => False) e1)
  (hk:∀ N,N = n → K (.exit eid) ⟨tput (apL (kept tm keep) utE) (unkT tm),[],.no,rd,tput uhE h,N,b,W⟩):S.loop (.seq (.region rid ops false) c2) f ⟨tm,df,pm,rd,h,n,b,W⟩ K :=by
 subst hS
 intro he
 simp only at he
 have hpm:pm = .no :=h0.pm
 let s0:AS :=⟨tm,df,pm,rd,h,n,b,W⟩
 let hd:A → AS :=fun a => qci tm rd h n b W keep (ut a) (uh a) []
 let sE:AS :=qci tm rd h n b W keep utE uhE []
 have hhole:∀ i,n ≤ i → hv s0.h i = .hole :=fun i hi => he.hole hi
 have hops0:ops[0]? = some o :=by rw [← Array.getElem?_toList,hops];rfl
 have hsz:ops.size = os.length + 1 :=by rw [← Array.length_toList,hops];rfl
 have hrange:List.range ops.size = 0 :: List.range' 1 os.length :=by
  rw [hsz,List.range_eq_range',List.range'_succ]
 have hos:∀ j o',os[j]? = some o' → ops[1 + j]? = some o' :=fun j o' hj => by
  rw [← Array.getElem?_toList,hops,Nat.add_comm];simpa using hj
 have hgu:∀ tm',qa9 ops tm' o = some true :=fun tm' => by unfold qa9;rw [hgd]
 have main:∀ (k:Nat) (a:A),I a → mu a < k → SemB E.P [.code (.seq (.region rid ops false) c2),.inLoop (.seq (.region rid ops false) c2)] s0 (hd a) (.exit eid) sE :=by
  intro k
  induction k with
  |zero => intro a _ h;omega
  |succ k ih =>
   intro a hIa hm
   obtain ⟨q1,q2,q3,q4⟩ :=hq a hIa
   have hea:HEnd (hd a).h (hd a).n :=qed he
   -- what a round comes to, from behind the next entry on
   have fin:∀ (s:AS),HEnd s.h s.n → qkc os E (qbm E.P) ops s (fun e1 s1 => @AEx.rec (fun _ => Prop)
     (exC c2 E (qbm E.P) s1 fun e2 s2 => @AEx.rec (fun _ => Prop) (∃ a',I a' ∧ mu a' < mu a ∧ AtG tm rd h n b W keep (ut a') (uh a') [] s2) (fun id => id = eid ∧ AtY [] tm rd h n b W keep utE uhE [] s2) False (fun _ => False) e2)
     (fun _ => False) False (fun _ => False) e1) → SemB E.P [.inRegion ops (List.range' 1 os.length),.code c2,.inLoop (.seq (.region rid ops false) c2)] s0 s (.exit eid) sE :=by
    intro s hse hx
    obtain ⟨e1,s1,h1,h2,h3⟩ :=qjj hE (qbj E.P) os 1 s _ hos hx hse
    cases e1 with
    |normal =>
     refine SemB.run (its1 :=[_]) h3 ?_
     obtain ⟨e2,s2,h4,h5,h6⟩ :=qf3 hE (qbj E.P) c2 s1 _ h1 h2.he
     cases e2 with
     |normal =>
      obtain ⟨a',hIa',hlt,hat⟩ :=h4
      exact SemB.run (its1 :=[_]) h6 (SemB.round (SemB.less (Less.of hat he hhole) (fun _ e => by cases e) (ih a' hIa' (by omega))))
     |exit id =>
      obtain ⟨rfl,hat⟩ :=h4
      exact SemB.out h6 (Less.ofY hat he hhole)
     |ret => exact False.elim h4
     |panic l => exact False.elim h4
    |exit id => exact False.elim h1
    |ret => exact False.elim h1
    |panic l => exact False.elim h1
   refine SemB.seq (SemB.region ?_)
   rw [hrange]
   refine SemB.next (s :=hd a) hops0 hop (hgu _) q1 (by show hv (tput (uh a) h) q = _;unfold hv;rw [q2]) (by show hv (tput (uh a) h) m = _;unfold hv;rw [q3]) hs q4 (fun j kk v hj hjn => ?_) fun hall => ?_
   ·obtain ⟨tm',k1,k2⟩ :=qbi (step a hIa j kk v hj hjn _ rfl)
    obtain ⟨h',k3,⟨y,hy⟩,k4⟩ :=Tr.setK_spec _ _ _ k1
    refine ⟨tm',h',k2,?_,fin _ (fun i hi => ?_) k3⟩
    ·funext i
     unfold upd
     by_cases e:i = q
     ·subst e;unfold hv;rw [k4,if_pos rfl,if_pos rfl]
     ·unfold hv;rw [k4,if_neg e,if_neg e];rfl
    ·show h'.get i = none
     rw [k4]
     have hi':n ≤ i :=hi
     have hnone:(tput (uh a) h).get i = none :=qek he i hi'
     rw [if_neg]
     ·exact hnone
     ·intro e;subst e;rw [hnone] at hy;cases hy
   ·obtain ⟨tm',k1,k2⟩ :=qbi (stop a hIa hall _ rfl)
    exact ⟨tm',k2,fin _ hea k1⟩
 have hfin :=SemB.less (Less.of h0 he hhole) (fun _ e => by cases e) (main (mu a0 + 1) a0 hI (by omega))
 have hsem :=SemB.enter hfin hpm rfl
 refine ⟨.exit eid,sE,hk _ rfl,⟨qed he,rfl,⟨fun x hx => hx,fun x hx hn => ?_⟩⟩,fun B H hH => ?_⟩
 ·show hv (tput uhE h) x = hv h x
  have hx':x < b :=hx
  have hnk:x ∉ qh4 uhE :=fun hk => by
   rcases hwr x hk with h1 | h1
   ·omega
   ·exact hn h1
  have hx2:(tput uhE h).get x = h.get x :=by
   cases hg:(tput uhE h).get x with
   |none => exact ((qii uhE h x).1 hg).symm
   |some y =>
    obtain ⟨_,h2⟩ :=qcm _ _ _ _ hg
    rcases h2 with h2 | ⟨_,h2⟩
    ·exact absurd (List.mem_map_of_mem (f :=(·.1)) h2) hnk
    ·exact h2.symm
  unfold hv
  rw [hx2]
 ·exact hsem B H hH
theorem qd7 {E:Env} (hE:E.Ok) {S:Sub} (hS:S = qbm E.P) {A:Type} {rid:Nat} {ops:Array Oper} {o:Oper} {os:List Oper} {c2:Code} {it:Operand} {f:AS → KE → Prop} {tm:Tr AV} {df:List ADf} {pm:APm} {rd:Bool} {h:Tr AObj} {n b:Nat} {W:List Nat} {K:KE}
  (hops:ops.toList = o :: os) (hop:o.op = .next it false) (hgd:o.guard = none)
  (q m since eid:Nat) (es:List (AV × AV)) (hs:es.length ≤ since)
  (keep:List Nat) (ut:A → List (Nat × AV)) (uh:A → List (Nat × AObj)) (seen:A → List Nat) (last:A → Nat) (I:A → Prop) (mu:A → Nat) (a0:A) (utE:List (Nat × AV)) (uhE:List (Nat × AObj)) (_hbn:b ≤ n)
  (hwr:∀ x,x ∈ qh4 uhE → b ≤ x ∨ x ∈ W)
  (h0:AtG tm rd h n b W keep (ut a0) (uh a0) [] ⟨tm,df,pm,rd,h,n,b,W⟩) (hI:I a0)
  (hq:∀ a,I a → aev (tput (apL (kept tm keep) (ut a)) (unkT tm)) it = .ptr q 0 ∧ (tput (uh a) h).get q = some (.miter m since (seen a) (last a)) ∧ (tput (uh a) h).get m = some (.mapo es) ∧ 0 < last a)
  (step:∀ a,I a → ∀ j k v,es[j]? = some (k,v) → j ∉ seen a → ∀ N,N = n → qca (tput (apL (kept tm keep) (ut a)) (unkT tm)) o.dst (.tup [.bool true,k,v]) fun tm' =>
   (tput (uh a) h).setK q (.miter m since (j :: seen a) es.length) fun h' => qkc os E S ops ⟨tm',[],.no,rd,h',N,b,W⟩ fun e1 s1 => @AEx.rec (fun _ => Prop)
    (exC c2 E S s1 fun e2 s2 => @AEx.rec (fun _ => Prop) (∃ a',I a' ∧ mu a' < mu a ∧ AtG tm rd h n b W keep (ut a') (uh a') [] s2) (fun id => id = eid ∧ AtY [] tm rd h n b W keep utE uhE [] s2) False (fun _ => False) e2)
    (fun _ => False) False (fun _ => False) e1)
  (stop:∀ a,I a → (∀ j,j < es.length → j ∈ seen a) → ∀ N,N = n → qca (tput (apL (kept tm keep) (ut a)) (unkT tm)) o.dst (.tup [.bool false]) fun tm' =>
   qkc os E S ops ⟨tm',[],.no,rd,tput (uh a) h,N,b,W⟩ fun e1 s1 => @AEx.rec (fun _ => Prop)
    (exC c2 E S s1 fun e2 s2 => @AEx.rec (fun _ => Prop) (∃ a',I a' ∧ mu a' < mu a ∧ AtG tm rd h n b W keep (ut a') (uh a') [] s2) (fun id => id = eid ∧ AtY [] tm rd h n b W keep utE uhE [] s2) False (fun _ => False) e2)
    (fun _ => False) False (fun _ => False) e1)
  (hk:∀ N,N = n → K (.exit eid) ⟨tput (apL (kept tm keep) utE) (unkT tm),[],.no,rd,tput uhE h,N,b,W⟩):S.loop (.seq (.region rid ops false) c2) f ⟨tm,df,pm,rd,h,n,b,W⟩ K :=
 qnk hE hS hops hop hgd q m since eid es hs keep ut uh seen last I mu a0 utE uhE _hbn hwr h0 hI (fun a ha => ⟨(hq a ha).1,(hq a ha).2.1,(hq a ha).2.2.1,.inl (hq a ha).2.2.2⟩) step stop hk
end
end Go.Abs

namespace Go.Abs
open Go
noncomputable section
def ghOf (m:Nat → Nat) (w:World):Gh :=⟨fun _ => 0,fun b => if b < w.heap.size then m b else 0,fun _ => 0,fun _ => 0,fun _ => 0⟩
theorem HRel.old (m:Nat → Nat) (w:World):HRel (ghOf m w) w.heap.size w AH.nil where
 wf :=fun _ _ => rfl
 ge :=fun _ h => absurd rfl h
 inj :=fun _ _ h => absurd rfl h
 rel :=fun _ => trivial
 live :=fun _ => trivial
 kp :=fun _ => trivial
 imz :=fun _ hb => if_neg (Nat.not_lt.2 hb)
 hB :=Nat.le_refl _
theorem Pure.callsAt {P:Program} {f:FuncId} {args:List AV} {b:Bool} (h:Pure P f args (.bool b)) {w:World} {vs:Array Value} (m:Nat → Nat) (hv:VRels (ghOf m w) w args vs.toList) (hl:Lives noL args) :
  Calls P f vs w (fun e w' => e = .returned (.bool b) ∧ RowKit.Below w.heap.size w w') :=by
 intro cs
 obtain ⟨g',fr',w',h1,h2,h3,u,h4,h5,_⟩ :=h.2 w.heap.size AH.nil _ vs cs w (HRel.old m w) hv hl.ofNo
 simp only [VRel] at h5
 subst h5
 exact ⟨.returned (.bool b),w',fr',⟨rfl,h1.below⟩,h2,h3,h4⟩
theorem VRels.one {g:Gh} {w:World} {x:AV} {u:Value} {xs:List AV} {us:List Value} (h:VRel g w x u) (hs:VRels g w xs us):VRels g w (x :: xs) (u :: us) :=⟨u,us,rfl,h,hs⟩
def frz1 (h:Tr AObj) (v:AV):Option AV :=
 match v with
 | .slc i off m _ => match off with
  | 0 => match hv h i with
   | .cells t n _ => match qew t 0 n with
    |some xs => match norefs xs with
     |true => some (.lst xs m .no)
     |false => none
    |none => none
   | _ => none
  | _ => none
 |v => match noref (wk v) with
  |true => some (wk v)
  |false => none
def frzL (h:Tr AObj):List AV → Option (List AV)
 | [] => some []
 |v :: vs => match frz1 h v with
  |some u => match frzL h vs with
   |some us => some (u :: us)
   |none => none
  |none => none
def frzV (h:Tr AObj) (v:AV):Option AV :=
 match v with
 | .tup vs => match frzL h vs with
  |some us => some (.tup us)
  |none => none
 |v => frz1 h v
theorem qq1 {h:Tr AObj} {v u:AV} (hf:frz1 h v = some u):FzV (hv h) v u ∧ Live noL u :=by
 have plain:∀ w:AV,(match noref (wk w) with | true => some (wk w) | false => none) = some u → FzV (hv h) w u ∧ Live noL u :=by
  intro w hw
  split at hw <;> cases hw
  rename_i hn
  exact ⟨FzV.ofWk (Wk.wk w) (FzV.no (qff _ hn)),qff _ hn⟩
 unfold frz1 at hf
 split at hf
 ·split at hf <;> try cases hf
  split at hf <;> try cases hf
  rename_i t n ty ho
  split at hf <;> try cases hf
  rename_i xs hl
  split at hf <;> cases hf
  rename_i hn
  obtain ⟨h1,h2⟩ :=qdf hl
  exact ⟨FzV.slcN ho h1 (fun j hj => by have :=h2 j hj;rwa [Nat.zero_add] at this) (qbs _ hn),qbs _ hn,fun _ e => by cases e⟩
 ·exact plain _ hf
theorem qq0 {h:Tr AObj}:∀ {vs us:List AV},frzL h vs = some us → FzVs (hv h) vs us ∧ Lives noL us
 | [],us,hf => by simp only [frzL,Option.some.injEq] at hf;subst hf;exact ⟨trivial,trivial⟩
 |v :: vs,us,hf => by
  unfold frzL at hf
  split at hf <;> try cases hf
  rename_i u hu
  split at hf <;> cases hf
  rename_i us' hus
  obtain ⟨h1,h2⟩ :=qq1 hu
  obtain ⟨h3,h4⟩ :=qq0 hus
  exact ⟨⟨h1,h3⟩,h2,h4⟩
theorem qvb {h:Tr AObj} {v u:AV} (hf:frzV h v = some u):FzV (hv h) v u ∧ Live noL u :=by
 unfold frzV at hf
 split at hf
 ·split at hf <;> cases hf
  rename_i us hus
  obtain ⟨h1,h2⟩ :=qq0 hus
  exact ⟨FzV.tup h1,h2⟩
 ·exact qq1 hf
def runF (E:Env) (fuel d:Nat) (f:FuncId) (args:List AV) (v:AV):Prop :=
 (sub E fuel d).fn f .normal args .no .nil 0 fun e _ h _ _ => match e with
  | .ret u => match frzV h u with
   |some u' => bif2 (eqA u' v) False True
   |none => False
  | .panic _ => False
theorem quc {E:Env} (hE:E.Ok) {fuel d:Nat} {f:FuncId} {args:List AV} {v:AV} (h:runF E fuel d f args v) (ha:norefs args = true):Pure E.P f args v :=by
 obtain ⟨e,pm',h',n',_,h1,h2,_,h3⟩ :=(ql3 hE fuel d).fn f .normal args .no .nil 0 _ h qdh
 cases e with
 |panic l => exact h1.elim
 |ret u =>
  simp only at h1
  split at h1
  case h_2 => exact h1.elim
  rename_i u' hu
  cases he:eqA u' v with
  |false => rw [he] at h1;exact False.elim h1
  |true =>
   have e :=qtu _ _ he
   subst e
   obtain ⟨k1,k2⟩ :=qvb hu
   refine qmh (fun B => ?_) (qbs _ ha) k2
   obtain ⟨H',h4,h5⟩ :=h3 B AH.nil qh6.symm
   exact ⟨u,H',CSem.of_F h5,by rw [h4];exact k1⟩
def mkEnvM (P:Program) (X:FuncId → Option ExtK) (mu:Option Tmp → TypeId → Bool) (y:Bool) (pu:FuncId → Bool) (M:Memo) (K:Env → Prop):Prop :=
 putL P.types.toList 0 .nil fun T => putL P.funcs.toList 0 .nil fun F => K ⟨P,T,F,⟨X,eqvOf P T,mu⟩,y,pu,M,fun _ _ _ _ _ R => R⟩
theorem qqg {P:Program} {X:FuncId → Option ExtK} {mu:Option Tmp → TypeId → Bool} {y:Bool} {pu:FuncId → Bool} {M:Memo} {K:Env → Prop} (h:mkEnvM P X mu y pu M K) (hn:(P.funcs.toList.all fun fn => !(fn.name == "runtime.NumGoroutine")) = true) (hX:EOK P X) (hm:P.follows .mixedOrders = true) (hM:MOK P M) :
  ∃ E:Env,K E ∧ E.Ok ∧ E.P = P :=by
 obtain ⟨T,h1,h2⟩ :=putL_ok _ _ _ _ h
 obtain ⟨F,h3,h4⟩ :=putL_ok _ _ _ _ h1
 have hT:TOK P T :=by
  intro t i hi
  have hi:T.get t = some i :=hi
  rw [h2] at hi
  split at hi
  ·rename_i hlt
   have hlt':t < P.types.size :=by simpa using hlt.2
   have hi':P.types[t]? = some i :=by simpa using hi
   show P.toTables.info? t = some i
   unfold Tables.info?
   rw [if_pos hlt']
   exact hi'
  ·simp at hi
 refine ⟨⟨P,T,F,⟨X,eqvOf P T,mu⟩,y,pu,M,fun _ _ _ _ _ R => R⟩,h3,⟨hT,?_,⟨hX,eqvOf_ok hT⟩,hm,hM,fun _ _ _ _ _ _ h => .inr (.inr h)⟩,rfl⟩
 intro f fn hf
 have hf:F.get f = some fn :=hf
 rw [h4] at hf
 split at hf
 ·have hf':P.funcs.toList[f]? = some fn :=by simpa using hf
  refine ⟨by simpa using hf',?_⟩
  have :=List.all_eq_true.1 hn fn (List.mem_of_getElem? hf')
  simpa using this
 ·simp at hf
theorem pure_runF {P:Program} {X:FuncId → Option ExtK} {mu:Option Tmp → TypeId → Bool} {y:Bool} {pu:FuncId → Bool} {M:Memo} {fuel d:Nat} {f:FuncId} {args:List AV} {v:AV} (h:mkEnvM P X mu y pu M fun E => runF E fuel d f args v)
  (hn:(P.funcs.toList.all fun fn => !(fn.name == "runtime.NumGoroutine")) = true) (hX:EOK P X) (hm:P.follows .mixedOrders = true) (hM:MOK P M) (ha:norefs args = true):Pure P f args v :=by
 obtain ⟨E,h1,h2,rfl⟩ :=qqg h hn hX hm hM
 exact quc h2 h1 ha
theorem CSem.same {P:Program} {B:Nat} {f:FuncId} {args:List AV} {H H2:AH} {e:AEnd} (h:CSem P B f args H e H2) (ho:H2.o = H.o):CSem P B f args H e H :=by
 intro g vs cs w hr hv hl
 obtain ⟨g',fr',w',h1,h2,h3,h4⟩ :=h g vs cs w hr hv hl
 have hL:H2.L = H.L :=by funext i;unfold AH.L;rw [ho]
 have rel :=h1.rel
 have ext :=h1.ext
 have own :=h1.own
 have frame :=h1.frame
 refine ⟨g',fr',w',⟨?_,ext,h1.below,fun _ hi => hi,frame,?_⟩,h2,h3,by rw [← hL];exact h4⟩
 ·exact { wf :=hr.wf,ge :=by rw [← ho];exact rel.ge,inj :=by rw [← ho];exact rel.inj,rel :=by rw [← ho];exact rel.rel,live :=by rw [← ho,← hL];exact rel.live,kp :=hr.kp,imz :=rel.imz,hB :=rel.hB }
 ·intro k hk
  have e:qfw g' H2 k :=by
   obtain ⟨i,hi,ei⟩ :=hk
   exact ⟨i,by rw [ho];exact hi,by rw [ho];exact ei⟩
  exact own k e
theorem HFun.pureR {P:Program} {f:FuncId} {args:List AV} {o:Nat → AObj} {m:Nat} {v:AV} (hf:HFun P f args o m v o) {h:Tr AObj} (he:∀ i,i < m → hv h i = o i):qof P f args (List.range m) (hv h) v :=fun B H hH => by
 have hH2:∀ i,i < m → H.o i = o i :=fun i hi => (hH i (List.mem_range.2 hi)).trans (he i hi)
 refine (hf B H hH2).same ?_
 funext i
 show (if i < m then o i else H.o i) = H.o i
 split
 ·rename_i hi;exact (hH2 i hi).symm
 ·rfl
theorem qtq {y:Bool} {n:Nat} {K:Nat → Prop} (h:K n):fcN y n K :=by
 cases y with
 |true => exact h
 |false => cases n <;> exact h
theorem qrb {v:AV} {K:AV → Prop} (h:K v):fcH0 v K :=by cases v <;> exact h
theorem qra {α:Type} {f:α → (α → Prop) → Prop} (hf:∀ x K,K x → f x K):∀ (xs:List α) (K:List α → Prop),K xs → fcL0 f xs K
 | [],_,h => h
 |x :: xs,K,h => hf x (fun x => fcL0 f xs fun xs => K (x :: xs)) (qra hf xs (fun xs => K (x :: xs)) h)
theorem qll {α:Type} {x:α}:∀ (t:Tr α) (i:Nat) (K:Tr α → Prop),(∀ j,(t.get j).isSome = true ↔ j < i) → (∀ t':Tr α,(∀ j,t'.get j = if j = i then some x else t.get j) → K t') → t.insK i x K
 | .nil,0,K,_,h => h (.node x .nil .nil) fun j => by
  cases j with
  |zero => rw [if_pos rfl];rfl
  |succ j => rw [Tr.get_single,if_neg (Nat.succ_ne_zero j),Tr.get_nil]
 | .nil,i + 1,K,hd,_ => absurd ((hd 0).2 (Nat.succ_pos i)) (by rw [Tr.get_nil];intro h;cases h)
 | .node v l r,0,K,hd,_ => absurd ((hd 0).1 rfl) (Nat.lt_irrefl 0)
 | .node v l r,i + 1,K,hd,h => by
  have hl:∀ j,l.get j = (Tr.node v l r).get (2 * j + 1) :=fun j => by
   rw [Tr.get_node_even _ _ _ (show 2 * j % 2 = 0 by omega),show 2 * j / 2 = j by omega]
  have hr:∀ j,r.get j = (Tr.node v l r).get (2 * j + 1 + 1) :=fun j => by
   rw [Tr.get_node_odd _ _ _ (show ¬ (2 * j + 1) % 2 = 0 by omega),show (2 * j + 1) / 2 = j by omega]
  by_cases hp:i % 2 = 0
  ·rw [Tr.insK_even hp]
   refine qll l (i / 2) _ (fun j => ?_) fun l' hl' => h _ fun j => ?_
   ·rw [hl,hd];omega
   ·cases j with
    |zero => rw [if_neg (by omega)];rfl
    |succ j =>
     by_cases hq:j % 2 = 0
     ·rw [Tr.get_node_even _ _ _ hq,Tr.get_node_even _ _ _ hq,hl']
      by_cases e:j = i
      ·rw [if_pos (by omega),if_pos (by omega)]
      ·rw [if_neg (by omega),if_neg (by omega)]
     ·rw [Tr.get_node_odd _ _ _ hq,Tr.get_node_odd _ _ _ hq,if_neg (by omega)]
  ·rw [Tr.insK_odd hp]
   refine qll r (i / 2) _ (fun j => ?_) fun r' hr' => h _ fun j => ?_
   ·rw [hr,hd];omega
   ·cases j with
    |zero => rw [if_neg (by omega)];rfl
    |succ j =>
     by_cases hq:j % 2 = 0
     ·rw [Tr.get_node_even _ _ _ hq,Tr.get_node_even _ _ _ hq,if_neg (by omega)]
     ·rw [Tr.get_node_odd _ _ _ hq,Tr.get_node_odd _ _ _ hq,hr']
      by_cases e:j = i
      ·rw [if_pos (by omega),if_pos (by omega)]
      ·rw [if_neg (by omega),if_neg (by omega)]
theorem qpj {α:Type}:∀ (xs:List α) (i:Nat) (t:Tr α) (K:Tr α → Prop),(∀ j,(t.get j).isSome = true ↔ j < i) → (∀ t':Tr α,(∀ j,t'.get j = if i ≤ j ∧ j < i + xs.length then xs[j - i]? else t.get j) → K t') → putL xs i t K
 | [],i,t,K,_,h => h t fun j => by rw [if_neg (by simp only [List.length_nil];omega)]
 |x :: xs,i,t,K,hd,h => qll t i _ hd fun t1 h1 => qtq (qpj xs (i + 1) t1 K (fun j => by
   rw [h1]
   by_cases e:j = i
   ·rw [if_pos e];exact ⟨fun _ => by omega,fun _ => rfl⟩
   ·rw [if_neg e,hd];omega) fun t' h' => h t' fun j => by
   rw [h',h1]
   by_cases e:j = i
   ·subst e
    rw [if_neg (by omega),if_pos rfl,if_pos (by simp only [List.length_cons];omega),Nat.sub_self];rfl
   ·rw [if_neg e]
    by_cases h5:i + 1 ≤ j ∧ j < i + 1 + xs.length
    ·rw [if_pos h5,if_pos (by simp only [List.length_cons];omega),show j - i = (j - (i + 1)) + 1 by omega];rfl
    ·rw [if_neg h5,if_neg (by simp only [List.length_cons];omega)])
theorem qso {xs:List AV} {m:Nat} {Q:List AV → Tr AV → Nat → Prop} (hl:xs.length = m) (h:∀ t:Tr AV,(∀ j,t.get j = xs[j]?) → Q xs t m):fcL0 fcH0 xs fun cs => putL cs 0 .nil fun t => fcN false cs.length fun m => Q cs t m :=by
 subst hl
 refine qra (fun _ _ h => qrb h) xs _ (qpj xs 0 .nil _ (fun j => by rw [Tr.get_nil];exact ⟨fun h => (nomatch h),fun h => absurd h (Nat.not_lt_zero _)⟩) fun t ht => qtq (h t fun j => ?_))
 rw [ht]
 by_cases e:j < xs.length
 ·rw [if_pos (by omega),Nat.sub_zero]
 ·rw [if_neg (by omega),Tr.get_nil,List.getElem?_eq_none (by omega)]
theorem qug {m:Nat} {x:AV} {K:Tr AV → Prop} (hm:m + 1 < 2 ^ 64) (h:∀ t:Tr AV,(∀ j,t.get j = if j < m then some x else none) → K t):repY true x m K :=by
 unfold repY
 cases Nat.ble 32 m with
 |false =>
  obtain ⟨s,t,hk⟩ :=qhj x 64 m hm
  obtain ⟨_,t',h1,_,h2⟩ :=Tr.copyK_spec 64 m (fun a b => a = s ∧ b = t) ((hk _).2 ⟨rfl,rfl⟩)
  obtain rfl :=h1.2
  exact (hk fun _ t => K t).2 (h _ h2)
 |true => exact fun t ht => h t ht
theorem qu1 {P:Prop} {Q:Nat → Prop} {n k:Nat} (e:n = k + 1) (h:Q k):@Nat.rec (fun _ => Prop) P (fun m _ => Q m) n :=by subst e;exact h
end
end Go.Abs
/-! Code cut between two parts, where lists that grew in the first part become cells that may be written to in the second one. -/
namespace Go.Abs
open Go
noncomputable section
def thG (g:Gh) (n:Nat) (rs:List Nat):Gh :={ g with ob :=fun i => if i < n then g.ob i else g.cb (rs.getD (i - n) 0) }
theorem qt7 (g:Gh) (n:Nat) (rs:List Nat) (w:World):Ext (fun i => i < n) g w (thG g n rs) w :=
 ⟨fun _ hi => if_pos hi,fun _ _ => Nat.le_refl _,fun _ _ _ => ⟨rfl,rfl⟩,fun _ => Nat.le_refl _,fun _ _ _ => rfl⟩
inductive ThV (n:Nat) (rs:List Nat) (ux:List AObj) (o:Nat → AObj):AV → AV → Prop
 |wk {y a:AV} (h:WkV y a) (b:bd a ≤ n):ThV n rs ux o y a
 |ch {k j c d sz:Nat} {ty:TypeId} {xs:List AV} {t:Tr AV} (hk:0 < k) (hj:j < ux.length) (e:rs.getD j 0 = c) (e2:d = n + j) (ho:o c = .mrow xs k sz ty) (hx:ux.getD j .hole = .cells t (k * sz) ty):ThV n rs ux o (.lst [] k (.ch c)) (.slc d 0 k 0)
def ThE (n:Nat) (rs:List Nat) (ux:List AObj) (o:Nat → AObj) (es es':List (AV × AV)):Prop :=
 @List.rec (AV × AV) (fun _ => List (AV × AV) → Prop) (fun es' => @List.rec (AV × AV) (fun _ => Prop) True (fun _ _ _ => False) es')
  (fun p _ ih es' => @List.rec (AV × AV) (fun _ => Prop) False (fun q r _ => ((WkV p.1 q.1 ∧ bd q.1 ≤ n) ∧ ThV n rs ux o p.2 q.2) ∧ ih r) es') es es'
inductive OTh (n:Nat) (rs:List Nat) (ux:List AObj) (o:Nat → AObj):AObj → AObj → Prop
 |same (x:AObj) (b:BdO n x):OTh n rs ux o x x
 |mapo {es es':List (AV × AV)} (h:ThE n rs ux o es es'):OTh n rs ux o (.mapo es) (.mapo es')
inductive UTh (n:Nat):AObj → AObj → Prop
 |row {xs:List AV} {k sz:Nat} {ty:TypeId} {t:Tr AV} (h:TOf xs t) (b:bdl xs ≤ n):UTh n (.mrow xs k sz ty) (.cells t (k * sz) ty)
section
variable {n:Nat} {rs:List Nat} {ux:List AObj} {g:Gh} {B:Nat} {w:World} {H:AH} {o:Nat → AObj}
theorem OTh.hole {x y:AObj} (h:OTh n rs ux o x y):x = .hole ↔ y = .hole :=by cases h <;> first|exact Iff.rfl|exact ⟨fun e => (nomatch e),fun e => (nomatch e)⟩
theorem ThV.rel {y a:AV} {u:Value} (k:ThV n rs ux H.o y a) (hr:HRel g B w H) (hl:Live H.L y) (hv:VRel g w y u):VRel (thG g n rs) w a u :=by
 cases k with
 |wk h b => exact VRel.ext (qt7 g n rs w) a u (Live.mono (fun _ k => k.2) a (Live.below a (h.lv _ hl) b)) (h.wk _ _ _ hv)
 | @ch k j c d sz ty xs t hk hj e e2 ho hx =>
  simp only [VRel] at hv ⊢
  obtain ⟨b,off,cap,h1,h2,_,_,h5⟩ :=hv
  have hrc :=hr.rel c
  rw [ho] at hrc
  obtain ⟨arr,q1,q2,q3,q4,q5,q6,q7⟩ :=hrc
  obtain ⟨_,h5⟩ :=h5
  obtain ⟨h6,h7,h8⟩ :=h5 q5.symm
  subst h6 h7 h8
  have e1:(thG g n rs).ob d = g.cb c :=by
   show (if d < n then _ else g.cb (rs.getD (d - n) 0)) = _
   rw [if_neg (by omega),show d - n = j by omega,e]
  rw [e1]
  exact ⟨_,h1,h2,fun h => by omega⟩
theorem ThE.rel:∀ {es es':List (AV × AV)} {ces:List MapEntry},ThE n rs ux H.o es es' → HRel g B w H → qch H.L es → MRel g w es ces → MRel (thG g n rs) w es' ces
 | [],[],_,_,_,_,h => h
 | [],_ :: _,_,k,_,_,_ => k.elim
 | _ :: _,[],_,k,_,_,_ => k.elim
 |(a,b) :: es,(a',b') :: es',ces,k,hr,hl,h => by
  obtain ⟨e,es2,e1,h1,h2,h3⟩ :=h
  exact ⟨e,es2,e1,ThV.rel (rs :=rs) (ux :=ux) (.wk k.1.1.1 k.1.1.2) hr hl.1 h1,k.1.2.rel hr hl.2.1 h2,ThE.rel k.2 hr hl.2.2 h3⟩
end
def TmTh (n:Nat) (rs:List Nat) (ux:List AObj) (o:Nat → AObj) (tm:Tr AV) (l:List (Nat × AV)):Prop :=
 @List.rec (Nat × AV) (fun _ => Prop) True (fun p _ ih => @Prod.rec Nat AV (fun _ => Prop) (fun i x => (∃ y,tm.get i = some y ∧ ThV n rs ux o y x) ∧ ih) p) l
theorem TmTh.mem {n:Nat} {rs:List Nat} {ux:List AObj} {o:Nat → AObj} {tm:Tr AV}:∀ {l:List (Nat × AV)},TmTh n rs ux o tm l → ∀ j a,(j,a) ∈ l → ∃ y,tm.get j = some y ∧ ThV n rs ux o y a
 |(i,x) :: l,h,j,a,hm => by
  rcases List.mem_cons.1 hm with e | hm
  ·cases e;exact h.1
  ·exact TmTh.mem h.2 j a hm
def ObTh (n:Nat) (rs:List Nat) (ux:List AObj) (s:Nat → AObj) (h':Tr AObj) (k:Nat):Prop :=
 @Nat.rec (fun _ => Prop) True (fun i ih => OTh n rs ux s (s i) (hv h' i) ∧ ih) k
theorem ObTh.lt {n:Nat} {rs:List Nat} {ux:List AObj} {s:Nat → AObj} {h':Tr AObj}:∀ {k:Nat},ObTh n rs ux s h' k → ∀ i,i < k → OTh n rs ux s (s i) (hv h' i)
 |k + 1,hk,i,hi => by
  by_cases e:i = k
  ·subst e;exact hk.1
  ·exact ObTh.lt hk.2 i (by omega)
def UxTh (n:Nat) (s:Nat → AObj) (rs:List Nat):List AObj → Prop :=
 @List.rec Nat (fun _ => List AObj → Prop) (fun ux => @List.rec AObj (fun _ => Prop) True (fun _ _ _ => False) ux)
  (fun c _ ih ux => @List.rec AObj (fun _ => Prop) False (fun x r _ => (n ≤ c ∧ UTh n (s c) x) ∧ ih r) ux) rs
theorem UxTh.get {n:Nat} {s:Nat → AObj}:∀ {rs:List Nat} {ux:List AObj},UxTh n s rs ux → rs.length = ux.length ∧ ∀ j,j < rs.length → n ≤ rs.getD j 0 ∧ UTh n (s (rs.getD j 0)) (ux.getD j .hole)
 | [],[],_ => ⟨rfl,fun j h => absurd h (Nat.not_lt_zero _)⟩
 | [],_ :: _,h => h.elim
 | _ :: _,[],h => h.elim
 |c :: rs,x :: ux,h => by
  obtain ⟨h1,h2⟩ :=UxTh.get h.2
  refine ⟨by rw [List.length_cons,List.length_cons,h1],fun j hj => ?_⟩
  cases j with
  |zero => exact h.1
  |succ j =>
   rw [List.length_cons] at hj
   exact h2 j (by omega)
section
variable {tm:Tr AV} {rd:Bool} {h:Tr AObj} {n b:Nat} {W:List Nat} {s':AS} {keep:List Nat} {ut:List (Nat × AV)} {uh:List (Nat × AObj)} {ux:List AObj} {rs:List Nat}
end
end
end Go.Abs

namespace Go.Abs
open Go
noncomputable section

end
end Go.Abs
/-! Code cut between two parts: cells that were written in the first part never change in the second one. A list that grew becomes cells with room that is known. -/
namespace Go.Abs
open Go
noncomputable section
def TmFz (o:Nat → AObj) (tm:Tr AV) (l:List (Nat × AV)):Prop :=
 @List.rec (Nat × AV) (fun _ => Prop) True (fun p _ ih => @Prod.rec Nat AV (fun _ => Prop) (fun i x => (∃ y,tm.get i = some y ∧ FzV o y x ∧ Live noL x) ∧ ih) p) l
theorem TmFz.mem {o:Nat → AObj} {tm:Tr AV}:∀ {l:List (Nat × AV)},TmFz o tm l → ∀ j a,(j,a) ∈ l → ∃ y,tm.get j = some y ∧ FzV o y a ∧ Live noL a
 |(i,x) :: l,h,j,a,hm => by
  rcases List.mem_cons.1 hm with e | hm
  ·cases e;exact h.1
  ·exact TmFz.mem h.2 j a hm
section
variable {tm:Tr AV} {rd:Bool} {W:List Nat} {s':AS} {keep:List Nat} {ut:List (Nat × AV)} {g g0:Gh} {B:Nat} {w w0:World} {H H0:AH}
end
/-! ### A list that grew, then cells with room that is known -/
def TmC (r k C:Nat) (tm:Tr AV) (l:List (Nat × AV)):Prop :=
 @List.rec (Nat × AV) (fun _ => Prop) True (fun p _ ih => @Prod.rec Nat AV (fun _ => Prop) (fun i x => (∃ y,tm.get i = some y ∧ ((WkV y x ∧ Live noL x) ∨ (y = .lst [] k (.ch r) ∧ x = .slc 0 0 k C))) ∧ ih) p) l
theorem TmC.mem {r k C:Nat} {tm:Tr AV}:∀ {l:List (Nat × AV)},TmC r k C tm l → ∀ j a,(j,a) ∈ l → ∃ y,tm.get j = some y ∧ ((WkV y a ∧ Live noL a) ∨ (y = .lst [] k (.ch r) ∧ a = .slc 0 0 k C))
 |(i,x) :: l,h,j,a,hm => by
  rcases List.mem_cons.1 hm with e | hm
  ·cases e;exact h.1
  ·exact TmC.mem h.2 j a hm
section
variable {tm:Tr AV} {rd:Bool} {W:List Nat} {s':AS} {ut:Nat → List (Nat × AV)} {xs:List AV} {k sz r:Nat} {ty:TypeId} {t:Tr AV} {g g0:Gh} {B:Nat} {w w0:World} {H H0:AH}
end
theorem FzV.ptr {o:Nat → AObj} {i n:Nat} {t:Tr AV} {ty:TypeId} {xs:List AV} (ho:o i = .cells t n ty) (hl:xs.length = n) (hx:∀ j,j < n → t.get j = xs[j]?) (hn:Lives noL xs):FzV o (.ptr i 0) (.lptr xs 0) :=by
 intro g B w H u hH hr hu
 subst hH
 simp only [VRel] at hu ⊢
 refine ⟨g.ob i,0,by simpa using hu,?_,?_⟩
 ·rw [qqz hr ho,hl];omega
 ·refine LRel.of_get xs 0 fun j a hj => ?_
  have hjn:j < n :=by
   rw [← hl]
   exact (List.getElem?_eq_some_iff.1 hj).1
  obtain ⟨a',v,h1,h2,h3,_⟩ :=hr.cellAt ho hjn
  rw [hx j hjn,hj] at h1
  cases h1
  have hln:Live noL a :=Lives.mem xs a hn (List.mem_of_getElem? hj)
  exact ⟨v,by rw [Nat.zero_add];exact h2,FzV.no (o :=H.o) hln g B w H v rfl hr h3⟩
theorem FzV.slcL {o:Nat → AObj} {i n m m' cap:Nat} {t:Tr AV} {ty:TypeId} {xs:List AV} (ho:o i = .cells t n ty) (hl:xs.length ≤ n) (hx:∀ j,j < xs.length → t.get j = xs[j]?) (hn:Lives noL xs) (hm:m = m'):FzV o (.slc i 0 m cap) (.lst xs m' .no) :=by
 subst hm
 intro g B w H u hH hr hu
 subst hH
 simp only [VRel] at hu ⊢
 obtain ⟨c,hu,hc,_⟩ :=hu
 refine ⟨g.ob i,0,c,hu,hc,?_,?_,trivial⟩
 ·rw [qqz hr ho];omega
 ·refine LRel.of_get xs 0 fun j a hj => ?_
  have hjn:j < xs.length :=(List.getElem?_eq_some_iff.1 hj).1
  obtain ⟨a',v,h1,h2,h3,_⟩ :=hr.cellAt ho (show j < n by omega)
  rw [hx j hjn,hj] at h1
  cases h1
  have hln:Live noL a :=Lives.mem xs a hn (List.mem_of_getElem? hj)
  exact ⟨v,by rw [Nat.zero_add];exact h2,FzV.no (o :=H.o) hln g B w H v rfl hr h3⟩
end
end Go.Abs

/-! Regions whose order is drawn, and whose last operation is a call that panics. -/
namespace Go.Abs
open Go
noncomputable section
section
variable {P:Program} {T:Tr TypeInfo} {F:Tr Func} {X:XT} {B:Nat} {ops:Array Oper} {base:Nat}
theorem qu3 (hT:TOK P T) (hF:FOK P F) (hX:XOK P X) (htop:∀ i o,ops[i]? = some o → ∀ e,e ∈ o.after → Region.binds .any e = true → e.on < i) {L:Nat} {l:List (AV × Bool)} {σ1 σ':St} (hL:OpS P B ops L σ1 (.panic l) σ') (hLs:L < ops.size) (hall:∀ j,j < L → Anc ops L j):∀ (n:Nat) (recs:List (Nat × Rec)) (t:Nat) (listed:Array Bool) (σ:St),
  recs.length = n → listed.size = ops.size → qog ops listed → (∀ i,((∃ r,(i,r) ∈ recs) ∨ i = L) ↔ (i < ops.size ∧ listed.getD i true = false)) → 
  recs.Pairwise (fun a b => a.1 < b.1 ∧ (Anc ops b.1 a.1 ∨ Ind ops base a b)) → (∀ p,p ∈ recs → p.1 < L) → qfx P T F X B ops base recs σ σ1 →
  SemT P B [.inRegion ops (Region.linearise.go .any ops (n + 1) t listed [])] σ (.panic l) σ' :=by
 intro n
 have hnoneG:∀ listed:Array Bool,listed.size = ops.size → ∀ i,i < ops.size → listed.getD i true = true → listed.getD i false = true :=fun listed hsz i hi h => by
  have:i < listed.size :=by omega
  simpa [this] using h
 induction n with
 |zero =>
  intro recs t listed σ hn hsz hd hmem _ _ hc
  have:recs = [] :=List.eq_nil_of_length_eq_zero hn
  subst this
  have hc:σ1 = σ :=hc
  subst hc
  have hLr:L ∈ Region.ready .any ops listed :=by
   rw [mem_ready]
   refine ⟨((hmem L).1 (.inr rfl)).2,ops[L],Array.getElem?_eq_getElem hLs,fun e he hb => ?_⟩
   have hlt :=htop L _ (Array.getElem?_eq_getElem hLs) e he hb
   refine hnoneG listed hsz _ (by omega) ?_
   cases hl:listed.getD e.on true with
   |true => rfl
   |false =>
    rcases (hmem e.on).2 ⟨by omega,hl⟩ with ⟨r,hr⟩ | hr
    ·cases hr
    ·omega
  simp only [Region.linearise.go]
  show SemT P B [.inRegion ops (match (Region.ready .any ops listed)[t % (Region.ready .any ops listed).length]? with
   |some i => [i].reverse
   |none => [].reverse)] σ1 (.panic l) σ'
  cases hi:(Region.ready .any ops listed)[t % (Region.ready .any ops listed).length]? with
  |none =>
   exfalso
   cases hr:Region.ready .any ops listed with
   |nil => rw [hr] at hLr;cases hLr
   |cons x xs =>
    rw [hr] at hi
    have hlt:t % (x :: xs).length < (x :: xs).length :=Nat.mod_lt _ (by simp)
    rw [List.getElem?_eq_getElem hlt] at hi
    cases hi
  |some i =>
   have hir :=List.mem_of_getElem? hi
   obtain ⟨q1,o,q2,q3⟩ :=mem_ready.1 hir
   have hilt:i < ops.size :=(Array.getElem?_eq_some_iff.1 q2).1
   rcases (hmem i).2 ⟨hilt,q1⟩ with ⟨r,hr⟩ | hr
   ·cases hr
   ·subst hr
    exact SemT.region_panic hL
 |succ n ih =>
  intro recs t listed σ hn hsz hd hmem hpw hlt hc
  have hnone :=hnoneG listed hsz
  -- the first one is ready
  have hfirst:Region.ready .any ops listed ≠ [] :=by
   cases recs with
   |nil => simp at hn
   |cons p rest =>
    obtain ⟨i0,r0⟩ :=p
    have h0 :=(hmem i0).1 (.inl ⟨r0,by simp⟩)
    have h0L :=hlt (i0,r0) (by simp)
    have:i0 ∈ Region.ready .any ops listed :=by
     rw [mem_ready]
     refine ⟨h0.2,ops[i0],Array.getElem?_eq_getElem h0.1,fun e he hb => ?_⟩
     have hlt :=htop i0 _ (Array.getElem?_eq_getElem h0.1) e he hb
     apply hnone _ (by omega)
     cases hl:listed.getD e.on true with
     |true => rfl
     |false =>
      rcases (hmem e.on).2 ⟨by omega,hl⟩ with ⟨r,hr⟩ | hr
      ·rcases List.mem_cons.1 hr with h | h
       ·cases h;omega
       ·have :=(List.pairwise_cons.1 hpw).1 _ h
        simp only at this;omega
      ·simp only at h0L;omega
    intro e
    rw [e] at this
    cases this
  simp only [Region.linearise.go]
  show SemT P B [.inRegion ops (match (Region.ready .any ops listed)[t % (Region.ready .any ops listed).length]? with
   |some i => Region.linearise.go .any ops (n + 1) (t / (Region.ready .any ops listed).length) (listed.setIfInBounds i true) [i]
   |none => [].reverse)] σ (.panic l) σ'
  cases hi:(Region.ready .any ops listed)[t % (Region.ready .any ops listed).length]? with
  |none =>
   exfalso
   cases hr:Region.ready .any ops listed with
   |nil => exact hfirst hr
   |cons x xs =>
    rw [hr] at hi
    have hlt:t % (x :: xs).length < (x :: xs).length :=Nat.mod_lt _ (by simp)
    rw [List.getElem?_eq_getElem hlt] at hi
    cases hi
  |some i =>
   simp only []
   rw [linearise_go_acc,List.reverse_singleton,List.singleton_append]
   have hir :=List.mem_of_getElem? hi
   obtain ⟨q1,o,q2,q3⟩ :=mem_ready.1 hir
   have hilt:i < ops.size :=(Array.getElem?_eq_some_iff.1 q2).1
   have hiL:i ≠ L :=by
    intro e
    subst e
    cases recs with
    |nil => simp at hn
    |cons p rest =>
     have hp :=hlt p (by simp)
     have hu :=((hmem p.1).1 (.inl ⟨p.2,by simp⟩)).2
     have hl :=(hall p.1 hp).ready hd hir
     have:p.1 < listed.size :=by omega
     simp [this] at hu hl
     rw [hl] at hu
     cases hu
   obtain ⟨r,hr⟩ :=((hmem i).2 ⟨hilt,q1⟩).resolve_right hiL
   obtain ⟨pre,post,hsplit⟩ :=List.append_of_mem hr
   subst hsplit
   have hpw' :=List.pairwise_append.1 hpw
   have hpre:∀ a,a ∈ pre → a.1 ≠ i ∧ Ind ops base a (i,r) :=fun a ha => by
    have h1 :=hpw'.2.2 a ha (i,r) (by simp)
    refine ⟨by have :=h1.1;simp only at this;omega,?_⟩
    rcases h1.2 with h2 | h2
    ·have h3 :=h2.ready hd hir
     have h4 :=((hmem a.1).1 (.inl ⟨a.2,by simp [ha]⟩))
     have:a.1 < listed.size :=by omega
     have h5 :=h4.2
     simp [this] at h3 h5
     rw [h3] at h5
     cases h5
    ·exact h2
   obtain ⟨σ1,hs1,hs2⟩ :=qfx.front pre σ hc hpre
   refine SemT.region_cons (hs1.opS hT hF hX) (ih (pre ++ post) _ _ _ ?_ ?_ ?_ ?_ ?_ ?_ hs2)
   ·simp only [List.length_append,List.length_cons] at hn ⊢;omega
   ·simpa using hsz
   ·intro k ok hk hok e he hb
    by_cases hki:k = i
    ·subst hki
     rw [q2] at hok;cases hok
     exact getD_set_true (q3 e he hb)
    ·rw [getD_set_ne false (Ne.symm hki)] at hk
     exact getD_set_true (hd k ok hk hok e he hb)
   ·intro k
    constructor
    ·rintro (⟨rk,hk⟩ | rfl)
     ·have hk':(k,rk) ∈ pre ++ (i,r) :: post :=by
       rcases List.mem_append.1 hk with h | h
       ·exact List.mem_append_left _ h
       ·exact List.mem_append_right _ (List.mem_cons_of_mem _ h)
      have h1 :=(hmem k).1 (.inl ⟨rk,hk'⟩)
      have hne:k ≠ i :=by
       rcases List.mem_append.1 hk with h | h
       ·have :=(hpre _ h).1;simpa using this
       ·have :=(List.pairwise_cons.1 hpw'.2.1).1 _ h
        simp only at this;omega
      exact ⟨h1.1,by rw [getD_set_ne true (Ne.symm hne)];exact h1.2⟩
     ·have h1 :=(hmem k).1 (.inr rfl)
      exact ⟨h1.1,by rw [getD_set_ne true hiL];exact h1.2⟩
    ·rintro ⟨h1,h2⟩
     have hne:k ≠ i :=by
      intro e
      subst e
      have:k < listed.size :=by omega
      simp [this] at h2
     rw [getD_set_ne true (Ne.symm hne)] at h2
     rcases (hmem k).2 ⟨h1,h2⟩ with ⟨rk,hk⟩ | hk
     ·refine .inl ⟨rk,?_⟩
      rcases List.mem_append.1 hk with h | h
      ·exact List.mem_append_left _ h
      ·rcases List.mem_cons.1 h with h | h
       ·cases h;exact absurd rfl hne
       ·exact List.mem_append_right _ h
     ·exact .inr hk
   ·refine List.pairwise_append.2 ⟨hpw'.1,(List.pairwise_cons.1 hpw'.2.1).2,fun a ha b hb => hpw'.2.2 a ha b (List.mem_cons_of_mem _ hb)⟩
   ·intro p hp
    refine hlt p ?_
    rcases List.mem_append.1 hp with h | h
    ·exact List.mem_append_left _ h
    ·exact List.mem_append_right _ (List.mem_cons_of_mem _ h)
theorem Sem.region_drawnP (hT:TOK P T) (hF:FOK P F) (hX:XOK P X) (hmx:P.follows .mixedOrders = true) {id:Nat} {U:List (Nat × Nat)} (hU:qor ops = some U) {rs:List Rec} (hlen:rs.length + 1 = ops.size)
  {σ σ1 σ':St} (hind:qj9 σ.H.n rs U = true) (hch:qfx P T F X B ops σ.H.n (lab 0 rs) { σ with H :=σ.H.room ops.size } σ1) {l:List (AV × Bool)} (hL:OpS P B ops rs.length σ1 (.panic l) σ'):Sem P B (.region id ops true) σ (.panic l) σ' :=by
 obtain ⟨htop,hun⟩ :=qlx hU
 have hsz:rs.length < ops.size :=by omega
 have hmem:∀ i,((∃ r,(i,r) ∈ lab 0 rs) ∨ i = rs.length) ↔ (i < ops.size ∧ (Array.replicate ops.size false).getD i true = false) :=by
  intro i
  constructor
  ·rintro (⟨r,hr⟩ | rfl)
   ·have h1 :=((qe5 rs 0 i r).1 hr).2
    have h2:i < ops.size :=by
     have :=(List.getElem?_eq_some_iff.1 h1).1
     omega
    exact ⟨h2,by simp [h2]⟩
   ·exact ⟨hsz,by simp [hsz]⟩
  ·rintro ⟨h1,_⟩
   by_cases e:i = rs.length
   ·exact .inr e
   ·have h2:i < rs.length :=by omega
    exact .inl ⟨rs[i],(qe5 rs 0 i _).2 ⟨Nat.zero_le _,by simp [h2]⟩⟩
 have hlt:∀ p,p ∈ lab 0 rs → p.1 < rs.length :=fun p hp => by
  have h1 :=((qe5 rs 0 p.1 p.2).1 hp).2
  exact (List.getElem?_eq_some_iff.1 h1).1
 have hall:∀ j,j < rs.length → Anc ops rs.length j :=fun j hj => by
  rcases hun j rs.length hj hsz with h | ⟨h1,_⟩
  ·exact h
  ·have :=List.all_eq_true.1 hind _ h1
   simp [hj] at this
 have hpw:(lab 0 rs).Pairwise (fun a b => a.1 < b.1 ∧ (Anc ops b.1 a.1 ∨ Ind ops σ.H.n a b)) :=by
  refine qeb rs 0 fun i j a b _ hij ha hb => ⟨hij,?_⟩
  have hj:j < ops.size :=by
   have :=(List.getElem?_eq_some_iff.1 hb).1
   omega
  rcases hun i j hij hj with h | ⟨h1,h2⟩
  ·exact .inl h
  ·refine .inr ⟨h2,qqr ?_⟩
   have :=List.all_eq_true.1 hind _ h1
   simp only [Nat.sub_zero] at ha hb
   simpa [ha,hb] using this
 have hd:qog ops (Array.replicate ops.size false) :=by
  intro i o h
  exfalso
  rw [Array.getD_eq_getD_getElem?,Array.getElem?_replicate] at h
  split at h <;> simp at h
 intro g fr cs w k hr hm ht hro k' hk
 have hdr:Out g B w σ.H g w.drew (σ.H.room ops.size) :=
  ⟨(Out.drew hr.h).rel.room _,(Out.drew hr.h).ext,(Out.drew hr.h).below,fun _ h => h,(Out.drew hr.h).frame,(Out.drew hr.h).own⟩
 have hr1 :=hr.out hdr
 have hmain :=fun t => qu3 hT hF hX htop hL hsz hall rs.length (lab 0 rs) t (Array.replicate ops.size false) _ (qfq rs 0) (by simp) hd hmem hpw hlt hch
 simp only [List.cons_append,List.nil_append] at ht
 have hstep:∃ t,Steps P (lone fr cs w) (lone { fr with todo :=.inRegion ops (Region.linearise .any ops t) :: k } cs w.drew) :=by
  have hrun:∃ t,(choose (.order fr.fn id)).run P w = .ok t w.drew :=by
   rw [run_choose_drew]
   exact ⟨_,rfl⟩
  obtain ⟨t,ht'⟩ :=hrun
  refine ⟨t,qa2 ?_⟩
  simp [-run_choose,-run_choose_drew,stepG,stepG.exec,hm,ht,ht',Region.schedule,hmx]
 obtain ⟨t,hstep⟩ :=hstep
 have hm1 :=hmain t
 rw [hlen] at hm1
 obtain ⟨g1,fr1,cs1,w1,q1,q2,q3,q4,q5,q6,q7⟩ :=hm1 g { fr with todo :=.inRegion ops (Region.linearise .any ops t) :: k } cs w.drew k (hr1.todo _) hm rfl (fun e => by cases e) k' hk
 exact ⟨g1,fr1,cs1,w1,q1,hdr.trans q2,⟨q3.fn,q3.kind,q3.round⟩,q4,q5,q6,hstep.trans q7⟩
end
def qm7 (E:Env) (S:Sub) (ops:Array Oper) (s:AS) (K:KE):Prop :=
 @AS.rec (fun _ => Prop) (fun tm df pm rd h n b wr => qpg ops.size h n fun h1 n1 => exDr ops.toList.dropLast E S ops n 0 [] ⟨tm,df,pm,rd,h1,n1,b,wr⟩ fun rs s' =>
  S.drawn ops n rs (@Option.rec Oper (fun _ => Prop) False (fun o => exOp E S ops o s' fun e s'' => @AEx.rec (fun _ => Prop) False (fun _ => False) False (fun l => K (.panic l) s'') e) ops.toList.getLast?)) s
theorem qel {E:Env} (hE:E.Ok) {S:Sub} (hS:S = qbm E.P) {id:Nat} {ops:Array Oper} {s:AS} {K:KE} (hk:qm7 E S ops s K):S.code (.region id ops true) s K :=by
 subst hS
 intro he
 have hS :=qbj E.P
 obtain ⟨tm,df,pm,rd,h,n,b,wr⟩ :=s
 simp only [qm7] at hk
 simp only at he
 obtain ⟨h0,h1,h2,h3⟩ :=qiq _ _ _ _ hk he
 obtain ⟨rs,s',q1,q2,q3,q4⟩ :=qlq hE hS (ops :=ops) ops.toList.dropLast 0 [] _ _ (fun j o hj => by
  rw [Nat.zero_add]
  rw [List.getElem?_dropLast] at hj
  split at hj
  ·simpa using hj
  ·cases hj) h1 h3
 obtain ⟨hd,q1⟩ :=hS.drawn _ _ _ _ q1
 unfold qeg at hd
 split at hd
 case h_1 => cases hd
 rename_i U hU
 have hi:qj9 n rs U = true :=by simpa using hd
 cases hl:ops.toList.getLast? with
 |none => rw [hl] at q1;exact q1.elim
 |some o =>
  rw [hl] at q1
  have hne:ops.toList ≠ [] :=fun e => by rw [e] at hl;cases hl
  have hpos:0 < ops.size :=by
   have :=List.length_pos_iff.2 hne
   simpa using this
  have hlen:rs.length + 1 = ops.size :=by
   rw [q3,List.length_dropLast,Array.length_toList]
   omega
  have ho:ops[rs.length]? = some o :=by
   rw [List.getLast?_eq_getElem?,Array.length_toList] at hl
   rw [show rs.length = ops.size - 1 by omega]
   simpa using hl
  obtain ⟨e,s2,r1,r2,r3⟩ :=qrc hE hS ho q1 q2.he
  cases e with
  |panic l =>
   have kp:Kept b h wr h0 wr :=⟨fun _ h => h,fun x _ _ => by rw [h2]⟩
   refine ⟨_,s2,r1,⟨r2.he,r2.b.trans q2.b,kp.trans (q2.kept.trans (by have :=r2.kept;rwa [q2.b] at this))⟩,fun B H hH => ?_⟩
   obtain ⟨H',k1,k2⟩ :=q4 B ({ ({ H with n :=n }:AH) with n :=n + ops.size }:AH) (by show H.o = _;rw [hH];exact h2.symm)
   obtain ⟨H2,k3,k4⟩ :=r3 B H' k1
   refine ⟨H2,k3,SemT.renum (m :=n) ?_ fun i hi => by show H.o i = _;rw [hH];exact he.hole hi⟩
   exact Sem.region_drawnP (σ :=AS.st ⟨tm,df,pm,rd,h,n,b,wr⟩ { H with n :=n }) hE.T hE.F hE.X hE.mx hU hlen hi k2 k4
  | _ => exact r1.elim
theorem qem {P:Program} {E:EqT → PcT → Env} {q0:EqT} (hE:(E q0 (symPc P)).Ok) (hP:(E q0 (symPc P)).P = P) {f:FuncId} {args:List AV} {l:List (AV × Bool)} (ha:Lives noL args) (hl:∀ p,p ∈ l → Live noL p.1)
  (h:∀ S q pc,S = qbm P → q = q0 → pc = symPc P → (E q pc).Ok → exFn (E q pc) S f .normal args .no .nil 0 fun e _ _ _ _ => e = .panic l):qb7 P f args l :=by
 have hs :=qbj P
 obtain ⟨e,pm',h',n',_,rfl,_,_,h3⟩ :=qd3 hE (S :=qbm P) (by rw [hP];exact hs) f .normal args .no .nil 0 _ (h _ _ _ rfl rfl rfl hE) qdh
 refine qmi (fun B => ?_) ha hl
 obtain ⟨H',h4,h5⟩ :=h3 B AH.nil qh6.symm
 rw [hP] at h5
 exact ⟨H',CSem.of_F h5⟩
end
end Go.Abs

