/-
  Closures that append to a list that they have captured: the list's cell is one of the first objects, its chain stands wherever it does.
  Code cut between two parts: the first part ends in one of some states, of each of which less may be known; the second part is carried out from there once.
  From a pure call to the kit's own words, with arguments.
-/
import Derived.Test.YtpjclnoehlflcaaGreatDoorU4
/-! Closures that append to a list that they have captured: the list's cell is one of the first objects, its chain stands wherever it does. -/
namespace Go.Abs
open Go
noncomputable section
abbrev LState :=Option (List AV × Nat)
def lcell (ty:TypeId) (c:Nat):LState → AObj
 |none => .cells (.node .nils .nil .nil) 1 ty
 |some (xs,k) => .cells (.node (.lst xs k (.ch c)) .nil .nil) 1 ty
def lchn (sz:Nat) (e:TypeId):LState → AObj
 |none => .hole
 |some (_,k) => .chain k sz e
def LBd (m:Nat):LState → Prop
 |none => True
 |some (xs,_) => bdl xs ≤ m
theorem lcell_ne {ty c} (L:LState):lcell ty c L ≠ .hole :=by
 rcases L with _ | ⟨xs,k⟩ <;> exact fun e => nomatch e
theorem lcell_bk (g:Gh) {ty c i} (L:LState):g.bk (lcell ty c L) i = g.ob i :=by
 rcases L with _ | ⟨xs,k⟩ <;> rfl
theorem lchn_bk (g:Gh) {sz e i} {L:LState} (h:lchn sz e L ≠ .hole):g.bk (lchn sz e L) i = g.cb i :=by
 rcases L with _ | ⟨xs,k⟩
 ·exact absurd rfl h
 ·rfl
theorem lchn_some {sz e} {L:LState}:lchn sz e L ≠ .hole ↔ L ≠ none :=by
 rcases L with _ | ⟨xs,k⟩
 ·exact ⟨fun h => absurd rfl h,fun h => absurd rfl h⟩
 ·exact ⟨fun _ h => (nomatch h),fun _ h => (nomatch h)⟩
theorem node1_get {x y:AV} {j:Nat} (h:(Tr.node x .nil .nil).get j = some y):y = x :=by
 rcases j with _ | j
 ·exact (Option.some.inj h).symm
 ·exfalso
  revert h
  by_cases hj:j % 2 = 0
  ·rw [Tr.get_node_even _ _ _ hj]
   show Tr.get .nil _ = _ → False
   rw [Tr.get_nil];exact fun h => nomatch h
  ·rw [Tr.get_node_odd _ _ _ hj]
   show Tr.get .nil _ = _ → False
   rw [Tr.get_nil];exact fun h => nomatch h
def AH.lput (H:AH) (a c:Nat) (x y:AObj):AH :=⟨max (c + 1) H.n,max (c + 1) H.keep,fun i => if i = a then x else if i = c then y else H.o i⟩
def HFunL (P:Program) (f:FuncId) (args:List AV) (b:Nat → AObj) (m a:Nat) (ty:TypeId) (sz:Nat) (e:TypeId) (L L':LState) (v:AV):Prop :=
 ∀ B H c,m ≤ c → (∀ i,i < m → i ≠ a → H.o i = b i) → H.o a = lcell ty c L → H.o c = lchn sz e L → CSem P B f args H (.ret v) (H.lput a c (lcell ty c L') (lchn sz e L'))
theorem vrel_ch {g g':Gh} {w w':World} {S:Nat → Prop} (hx:Ext S g w g' w') {xs:List AV} {k c c':Nat} {v:Value} (hl:Lives S xs) (e1:g'.cn c' = g.cn c) (e2:g'.cb c' = g.cb c) (e3:g'.cc c' = g.cc c) (h:VRel g w (.lst xs k (.ch c)) v):VRel g' w' (.lst xs k (.ch c')) v :=by
 obtain ⟨b,off,cap,rfl,h1,h2,h3,h4⟩ :=h
 have :=VRel.ext hx (.lst xs k .no) _ ⟨hl,fun _ e => nomatch e⟩ ⟨b,off,cap,rfl,h1,h2,h3,trivial⟩
 obtain ⟨b',off',cap',e,k1,k2,k3,_⟩ :=this
 cases e
 refine ⟨b,off,cap,rfl,k1,k2,k3,?_⟩
 show k ≤ g'.cn c' ∧ (k = g'.cn c' → b = g'.cb c' ∧ off = 0 ∧ cap = g'.cc c')
 rw [e1,e2,e3]
 exact h4
theorem orel_lcell {g g':Gh} {w w':World} {S:Nat → Prop} (hx:Ext S g w g' w') {ty c c' i} {L:LState} (hl:∀ xs k,L = some (xs,k) → Lives S xs) (e1:L ≠ none → g'.cn c' = g.cn c ∧ g'.cb c' = g.cb c ∧ g'.cc c' = g.cc c) (hob:g'.ob i = g.ob i) (hh:w'.heap[g.ob i]? = w.heap[g.ob i]?) (hi:g'.im (g.ob i) = g.im (g.ob i)) (h:ORel g w i (lcell ty c L)):ORel g' w' i (lcell ty c' L) :=by
 rcases L with _ | ⟨xs,k⟩
 ·obtain ⟨arr,h1,h2,h3,h4⟩ :=h
  refine ⟨arr,by rw [hob,hh];exact h1,by rw [hob,hi];exact h2,h3,fun j hj => ?_⟩
  obtain ⟨a,v,k1,k2,k3⟩ :=h4 j hj
  obtain rfl :=node1_get k1
  exact ⟨_,v,k1,k2,k3⟩
 ·obtain ⟨arr,h1,h2,h3,h4⟩ :=h
  refine ⟨arr,by rw [hob,hh];exact h1,by rw [hob,hi];exact h2,h3,fun j hj => ?_⟩
  obtain rfl:j = 0 :=by omega
  obtain ⟨a,v,k1,k2,k3⟩ :=h4 0 hj
  obtain rfl :=node1_get k1
  obtain ⟨q1,q2,q3⟩ :=e1 (fun e => nomatch e)
  exact ⟨_,v,rfl,k2,vrel_ch hx (hl xs k rfl) q1 q2 q3 k3⟩
theorem orel_lchn {g g':Gh} {w w':World} {sz e c c'} {L:LState} (e1:L ≠ none → g'.cn c' = g.cn c ∧ g'.cb c' = g.cb c ∧ g'.cc c' = g.cc c) (hh:w'.heap[g.cb c]? = w.heap[g.cb c]?) (hi:g'.im (g.cb c) = g.im (g.cb c)) (h:ORel g w c (lchn sz e L)):ORel g' w' c' (lchn sz e L) :=by
 rcases L with _ | ⟨xs,k⟩
 ·trivial
 ·obtain ⟨arr,h1,h2,h3,h4,h5⟩ :=h
  obtain ⟨q1,q2,q3⟩ :=e1 (fun e => nomatch e)
  exact ⟨arr,by rw [q2,hh];exact h1,by rw [q2,hi];exact h2,by rw [q3];exact h3,by rw [q3];exact h4,by rw [q1];exact h5⟩
theorem hfunL_of {P:Program} {f:FuncId} {args:List AV} {b:Nat → AObj} {m a:Nat} {ty:TypeId} {sz:Nat} {e:TypeId} {L L':LState} {v:AV} (ham:a < m) (ha:bdl args ≤ m) (hb:∀ i,i < m → i ≠ a → OBd m (b i)) (hL:LBd m L) (hL':LBd m L') (hbv:bd v ≤ m) (hmono:L ≠ none → L' ≠ none)
  (h:∀ B (Hc:AH),(Hc.o = fun i => if i = a then lcell ty m L else if i < m then b i else if i = m then lchn sz e L else .hole) → ∃ H1 u c1,m ≤ c1 ∧ (L ≠ none → c1 = m) ∧ (∀ i,i < m → i ≠ a → H1.o i = b i) ∧ H1.o a = lcell ty c1 L' ∧ (L' ≠ none → H1.o c1 = lchn sz e L') ∧ WkV u v ∧ CSem P B f args Hc (.ret u) H1):HFunL P f args b m a ty sz e L L' v :=by
 intro B H c hc hH hHa hHc g vs cs w hr hvs hl
 let gI:Gh :=⟨g.ob,g.im,fun i => if i = m then g.cn c else g.cn i,fun i => if i = m then g.cb c else g.cb i,fun i => if i = m then g.cc c else g.cc i⟩
 let Hc:AH :=⟨m + 1,m + 1,fun i => if i = a then lcell ty m L else if i < m then b i else if i = m then lchn sz e L else .hole⟩
 have ca:Hc.o a = lcell ty m L :=if_pos rfl
 have ci:∀ i,i < m → i ≠ a → Hc.o i = b i :=fun i hi hn => by
  show (if i = a then _ else if i < m then b i else _) = _
  rw [if_neg hn,if_pos hi]
 have cm:Hc.o m = lchn sz e L :=by
  show (if m = a then _ else if m < m then b m else if m = m then _ else _) = _
  rw [if_neg (by omega),if_neg (by omega),if_pos rfl]
 have co:∀ i,m < i → Hc.o i = .hole :=fun i hi => by
  show (if i = a then _ else if i < m then b i else if i = m then _ else _) = _
  rw [if_neg (by omega),if_neg (by omega),if_neg (by omega)]
 have bkI:∀ x i,i ≠ m → gI.bk x i = g.bk x i :=fun x i hi => by cases x <;> first | rfl | exact if_neg hi
 have hx0:Ext (fun i => i < m) g w gI w :=⟨fun _ _ => rfl,fun i hi => by show _ ≤ (if i = m then _ else _);rw [if_neg (Nat.ne_of_lt hi)];exact Nat.le_refl _,fun i hi _ => ⟨if_neg (Nat.ne_of_lt hi),if_neg (Nat.ne_of_lt hi)⟩,fun _ => Nat.le_refl _,fun _ _ _ => rfl⟩
 have eI:gI.cn m = g.cn c ∧ gI.cb m = g.cb c ∧ gI.cc m = g.cc c :=⟨if_pos rfl,if_pos rfl,if_pos rfl⟩
 have le:∀ i,Hc.o i ≠ .hole → i ≤ m :=fun i hi => by
  apply Classical.byContradiction
  intro k
  exact hi (co i (by omega))
 -- each object of the smaller heap is one of the greater one
 have key:∀ i,Hc.o i ≠ .hole → H.o (if i = m then c else i) ≠ .hole ∧ gI.bk (Hc.o i) i = g.bk (H.o (if i = m then c else i)) (if i = m then c else i) :=fun i hi => by
  by_cases e1:i = m
  ·subst e1
   rw [if_pos rfl]
   rw [cm] at hi ⊢
   rw [hHc]
   refine ⟨hi,?_⟩
   rw [lchn_bk _ hi,lchn_bk _ hi];exact eI.2.1
  ·rw [if_neg e1]
   by_cases e2:i = a
   ·subst e2
    rw [ca,hHa,lcell_bk,lcell_bk]
    exact ⟨lcell_ne L,rfl⟩
   ·have hlt :=le i hi
    rw [ci i (by omega) e2] at hi ⊢
    rw [hH i (by omega) e2]
    exact ⟨hi,bkI _ _ e1⟩
 have nh:∀ i,i < m → H.o i ≠ .hole → Hc.o i ≠ .hole :=fun i hi k => by
  by_cases e2:i = a
  ·subst e2;rw [ca];exact lcell_ne L
  ·rw [ci i hi e2,← hH i hi e2];exact k
 have lxs:∀ xs k,L = some (xs,k) → Lives H.L xs ∧ bdl xs ≤ m :=fun xs k e1 => by
  have h1 :=hr.live a
  rw [hHa,e1] at h1
  have h2:Live H.L (.lst xs k (.ch c)) :=h1 0 _ rfl
  rw [e1] at hL
  exact ⟨h2.1,hL⟩
 have hrc:HRel gI B w Hc :=by
  refine ⟨fun i hi => co i hi,fun i hi => ?_,fun i j hi hj k => ?_,fun i => ?_,fun i => ?_,fun i => ?_,hr.imz,hr.hB⟩
  ·have :=key i hi
   rw [this.2];exact hr.ge _ this.1
  ·have k1 :=key i hi
   have k2 :=key j hj
   have l1 :=le i hi
   have l2 :=le j hj
   rw [k1.2,k2.2] at k
   have :=hr.inj _ _ k1.1 k2.1 k
   split at this <;> split at this <;> omega
  ·by_cases e2:i = a
   ·subst e2
    rw [ca]
    have h1 :=hr.rel i
    rw [hHa] at h1
    exact orel_lcell hx0 (fun xs k e1 => Lives.mono (fun _ h => h.2) xs (Lives.below xs (lxs xs k e1).1 (lxs xs k e1).2)) (fun _ => eI) rfl rfl rfl h1
   ·by_cases e1:i < m
    ·rw [ci i e1 e2]
     have h1 :=hr.rel i
     have h2 :=hr.live i
     rw [hH i e1 e2] at h1 h2
     exact h1.ext hx0 (OLive.mono (fun _ h => h.2) (OLive.below h2 (hb i e1 e2))) e1 rfl rfl (if_neg (Nat.ne_of_lt e1))
    ·by_cases e3:i = m
     ·subst e3
      rw [cm]
      have h1 :=hr.rel c
      rw [hHc] at h1
      exact orel_lchn (fun _ => eI) rfl rfl h1
     ·rw [co i (by omega)];trivial
  ·by_cases e2:i = a
   ·subst e2
    rw [ca]
    rcases hLe:L with _ | ⟨xs,k⟩
    ·intro j x hx
     obtain rfl :=node1_get hx
     trivial
    ·intro j x hx
     obtain rfl :=node1_get hx
     have h1 :=lxs xs k hLe
     refine ⟨Lives.mono (fun j hj => nh j hj.2 hj.1) xs (Lives.below xs h1.1 h1.2),fun c' e => ?_⟩
     cases e
     show Hc.o m ≠ .hole
     rw [cm,hLe];exact fun e => nomatch e
   ·by_cases e1:i < m
    ·have h2 :=hr.live i
     rw [hH i e1 e2] at h2
     rw [ci i e1 e2]
     exact OLive.mono (fun j hj => nh j hj.2 hj.1) (OLive.below h2 (hb i e1 e2))
    ·by_cases e3:i = m
     ·subst e3
      rw [cm]
      rcases L with _ | ⟨xs,k⟩ <;> trivial
     ·rw [co i (by omega)];trivial
  ·show OBd (max (i + 1) (m + 1)) _
   by_cases e2:i = a
   ·subst e2
    rw [ca]
    rcases L with _ | ⟨xs,k⟩
    ·intro j x hx
     obtain rfl :=node1_get hx
     exact Nat.zero_le _
    ·intro j x hx
     obtain rfl :=node1_get hx
     have hL:bdl xs ≤ m :=hL
     exact Nat.max_le.2 ⟨by omega,by omega⟩
   ·by_cases e1:i < m
    ·rw [ci i e1 e2];exact (hb i e1 e2).mono (by omega)
    ·by_cases e3:i = m
     ·subst e3
      rw [cm]
      rcases L with _ | ⟨xs,k⟩ <;> trivial
     ·rw [co i (by omega)];trivial
 have hlm:Lives (fun i => H.L i ∧ i < m) args :=Lives.below args hl ha
 have hlc:Lives Hc.L args :=Lives.mono (fun i hi => nh i hi.2 hi.1) args hlm
 have hvI:VRels gI w args vs.toList :=VRels.ext hx0 args _ (Lives.mono (fun _ h => h.2) args hlm) hvs
 obtain ⟨H1,u,c1,hc1,hcm,h1,h1a,h1c,hw,hcs⟩ :=h B Hc rfl
 obtain ⟨g',fr',w',ho1,hs,hf,u',hlv,hvu,hlu⟩ :=hcs gI vs cs w hrc hvI hlc
 let g2:Gh :=⟨fun i => if i < m then g'.ob i else g.ob i,g'.im,fun i => if i < m then g'.cn i else if i = c then g'.cn c1 else g.cn i,fun i => if i < m then g'.cb i else if i = c then g'.cb c1 else g.cb i,fun i => if i < m then g'.cc i else if i = c then g'.cc c1 else g.cc i⟩
 have ncm:¬ c < m :=by omega
 have bk1:∀ x i,i < m → g2.bk x i = g'.bk x i :=fun x i hi => by cases x <;> exact if_pos hi
 have bk2:∀ x i,¬ i < m → i ≠ c → g2.bk x i = g.bk x i :=fun x i hi hn => by
  cases x
  case chain => show (if i < m then _ else if i = c then _ else _) = _;rw [if_neg hi,if_neg hn];rfl
  all_goals exact if_neg hi
 have g2c:g2.cn c = g'.cn c1 ∧ g2.cb c = g'.cb c1 ∧ g2.cc c = g'.cc c1 :=by
  refine ⟨?_,?_,?_⟩
  all_goals
   show (if c < m then _ else if c = c then _ else _) = _
   rw [if_neg ncm,if_pos rfl]
 have hx1:Ext (fun i => i < m) g' w' g2 w' :=⟨fun i hi => if_pos hi,fun i hi => by show _ ≤ (if i < m then _ else _);rw [if_pos hi];exact Nat.le_refl _,fun i hi _ => ⟨if_pos hi,if_pos hi⟩,fun _ => Nat.le_refl _,fun _ _ _ => rfl⟩
 have hLm:∀ i,H.L i → i < m → Hc.L i :=fun i hi hlt => nh i hlt hi
 have hLc:H.L c → c1 = m ∧ Hc.L m :=fun hi => by
  have hi:H.o c ≠ .hole :=hi
  rw [hHc] at hi
  refine ⟨hcm (lchn_some.1 hi),?_⟩
  show Hc.o m ≠ .hole
  rw [cm];exact hi
 have hx2:Ext H.L g w g2 w' :=by
  refine ⟨fun i hi => ?_,fun i hi => ?_,fun i hi e => ?_,ho1.ext.im,ho1.ext.cell⟩
  ·show (if i < m then g'.ob i else g.ob i) = _
   by_cases k:i < m
   ·rw [if_pos k];exact ho1.ext.ob i (hLm i hi k)
   ·rw [if_neg k]
  ·show _ ≤ (if i < m then g'.cn i else if i = c then g'.cn c1 else g.cn i)
   by_cases k:i < m
   ·rw [if_pos k]
    have :=ho1.ext.cn i (hLm i hi k)
    have e:gI.cn i = g.cn i :=if_neg (Nat.ne_of_lt k)
    rwa [e] at this
   ·rw [if_neg k]
    by_cases k2:i = c
    ·subst k2
     rw [if_pos rfl,(hLc hi).1]
     have :=ho1.ext.cn m (hLc hi).2
     rwa [eI.1] at this
    ·rw [if_neg k2];exact Nat.le_refl _
  ·have e:(if i < m then g'.cn i else if i = c then g'.cn c1 else g.cn i) = g.cn i :=e
   show (if i < m then g'.cb i else if i = c then g'.cb c1 else g.cb i) = _ ∧ (if i < m then g'.cc i else if i = c then g'.cc c1 else g.cc i) = _
   by_cases k:i < m
   ·rw [if_pos k] at e
    rw [if_pos k,if_pos k]
    have e1:gI.cn i = g.cn i :=if_neg (Nat.ne_of_lt k)
    have :=ho1.ext.cb i (hLm i hi k) (by rw [e1];exact e)
    have e2:gI.cb i = g.cb i :=if_neg (Nat.ne_of_lt k)
    have e3:gI.cc i = g.cc i :=if_neg (Nat.ne_of_lt k)
    rw [e2,e3] at this
    exact this
   ·rw [if_neg k] at e
    rw [if_neg k,if_neg k]
    by_cases k2:i = c
    ·subst k2
     rw [if_pos rfl,(hLc hi).1] at e
     rw [if_pos rfl,if_pos rfl,(hLc hi).1]
     have :=ho1.ext.cb m (hLc hi).2 (by rw [eI.1];exact e)
     rw [eI.2.1,eI.2.2] at this
     exact this
    ·rw [if_neg k2,if_neg k2];exact ⟨rfl,rfl⟩
 let H2:AH :=H.lput a c (lcell ty c L') (lchn sz e L')
 have oa:H2.o a = lcell ty c L' :=if_pos rfl
 have nca:c ≠ a :=by omega
 have oc:H2.o c = lchn sz e L' :=by
  show (if c = a then _ else if c = c then _ else _) = _
  rw [if_neg nca,if_pos rfl]
 have oo:∀ i,i ≠ a → i ≠ c → H2.o i = H.o i :=fun i h1 h2 => by
  show (if i = a then _ else if i = c then _ else _) = _
  rw [if_neg h1,if_neg h2]
 -- the objects of the new heap: those that the call has looked at, and the others
 have keyA:∀ i,i < m ∨ i = c → H2.o i ≠ .hole → H1.o (if i = c then c1 else i) ≠ .hole ∧ g2.bk (H2.o i) i = g'.bk (H1.o (if i = c then c1 else i)) (if i = c then c1 else i) :=fun i hi hn => by
  by_cases e1:i = c
  ·subst e1
   rw [if_pos rfl]
   rw [oc] at hn ⊢
   rw [h1c (lchn_some.1 hn)]
   refine ⟨hn,?_⟩
   rw [lchn_bk _ hn,lchn_bk _ hn];exact g2c.2.1
  ·rw [if_neg e1]
   have hlt:i < m :=hi.resolve_right e1
   by_cases e2:i = a
   ·subst e2
    rw [oa,h1a,lcell_bk,lcell_bk]
    exact ⟨lcell_ne L',if_pos hlt⟩
   ·rw [oo i e2 e1,hH i hlt e2] at hn ⊢
    rw [h1 i hlt e2]
    exact ⟨hn,bk1 _ _ hlt⟩
 have keyB:∀ i,¬ (i < m ∨ i = c) → H2.o i ≠ .hole → H.o i ≠ .hole ∧ g2.bk (H2.o i) i = g.bk (H.o i) i :=fun i hi hn => by
  rw [oo i (by omega) (by omega)] at hn ⊢
  exact ⟨hn,bk2 _ _ (by omega) (by omega)⟩
 have notOwned:∀ i,¬ (i < m ∨ i = c) → H.o i ≠ .hole → ¬ Owned gI Hc (g.bk (H.o i) i) :=fun i hi he ⟨j,hj,ej⟩ => by
  have k :=key j hj
  have l :=le j hj
  rw [k.2] at ej
  have :=hr.inj _ _ k.1 he ej
  split at this <;> omega
 have ownI:∀ k,Owned gI Hc k → Owned g H k :=fun k ⟨j,hj,ej⟩ => by
  have q :=key j hj
  rw [q.2] at ej
  exact ⟨_,q.1,ej⟩
 have lift:∀ i,H1.L i ∧ i < m → H2.L i :=fun i hi => by
  show H2.o i ≠ .hole
  by_cases e2:i = a
  ·subst e2;rw [oa];exact lcell_ne L'
  ·rw [oo i e2 (by omega),hH i hi.2 e2,← h1 i hi.2 e2];exact hi.1
 have hL2:∀ i,H.L i → H2.L i :=fun i hi => by
  show H2.o i ≠ .hole
  by_cases e2:i = a
  ·subst e2;rw [oa];exact lcell_ne L'
  ·by_cases e1:i = c
   ·subst e1
    rw [oc]
    have hi:H.o i ≠ .hole :=hi
    rw [hHc] at hi
    exact lchn_some.2 (hmono (lchn_some.1 hi))
   ·rw [oo i e2 e1];exact hi
 have lxs':∀ xs k,L' = some (xs,k) → Lives (fun i => H1.L i ∧ i < m) xs :=fun xs k e1 => by
  have q1 :=ho1.rel.live a
  rw [h1a,e1] at q1
  have q2:Live H1.L (.lst xs k (.ch c1)) :=q1 0 _ rfl
  rw [e1] at hL'
  exact Lives.below xs q2.1 hL'
 have hrel:HRel g2 B w' H2 :=by
  refine ⟨fun i hi => ?_,fun i hi => ?_,fun i j hi hj k => ?_,fun i => ?_,fun i => ?_,fun i => ?_,ho1.rel.imz,ho1.rel.hB⟩
  ·have hi:max (c + 1) H.n ≤ i :=hi
   rw [oo i (by omega) (by omega)];exact hr.wf i (by omega)
  ·by_cases k:i < m ∨ i = c
   ·have q :=keyA i k hi
    rw [q.2];exact ho1.rel.ge _ q.1
   ·have q :=keyB i k hi
    rw [q.2]
    have :=hr.ge _ q.1
    exact ⟨this.1,Nat.lt_of_lt_of_le this.2 ho1.below.size⟩
  ·have mixed:∀ i j,(i < m ∨ i = c) → ¬ (j < m ∨ j = c) → H2.o i ≠ .hole → H2.o j ≠ .hole → g2.bk (H2.o i) i = g2.bk (H2.o j) j → False :=fun i j ki kj hi hj e => by
    have q1 :=keyA i ki hi
    have q2 :=keyB j kj hj
    rw [q1.2,q2.2] at e
    have hlt :=(hr.ge j q2.1).2
    rcases ho1.own (g.bk (H.o j) j) ⟨_,q1.1,e⟩ with h | h
    ·exact notOwned j kj q2.1 h
    ·omega
   by_cases ki:i < m ∨ i = c
   ·by_cases kj:j < m ∨ j = c
    ·have q1 :=keyA i ki hi
     have q2 :=keyA j kj hj
     rw [q1.2,q2.2] at k
     have :=ho1.rel.inj _ _ q1.1 q2.1 k
     split at this <;> split at this <;> omega
    ·exact (mixed i j ki kj hi hj k).elim
   ·by_cases kj:j < m ∨ j = c
    ·exact (mixed j i kj ki hj hi k.symm).elim
    ·have q1 :=keyB i ki hi
     have q2 :=keyB j kj hj
     rw [q1.2,q2.2] at k
     exact hr.inj i j q1.1 q2.1 k
  ·by_cases e2:i = a
   ·subst e2
    rw [oa]
    have q :=ho1.rel.rel i
    rw [h1a] at q
    exact orel_lcell hx1 (fun xs k e1 => Lives.mono (fun _ h => h.2) xs (lxs' xs k e1)) (fun _ => g2c) (if_pos ham) rfl rfl q
   ·by_cases e1:i = c
    ·subst e1
     rw [oc]
     by_cases e3:L' = none
     ·rw [e3];trivial
     ·have q :=ho1.rel.rel c1
      rw [h1c e3] at q
      exact orel_lchn (fun _ => g2c) rfl rfl q
    ·by_cases k:i < m
     ·rw [oo i e2 e1,hH i k e2]
      have q :=ho1.rel.rel i
      have q1 :=ho1.rel.live i
      rw [h1 i k e2] at q q1
      exact q.ext hx1 (OLive.mono (fun _ h => h.2) (OLive.below q1 (hb i k e2))) k rfl rfl (if_pos k)
     ·rw [oo i e2 e1]
      by_cases e3:H.o i = .hole
      ·rw [e3];trivial
      ·have hfr :=ho1.frame _ (hr.ge i e3).2 (notOwned i (by omega) e3)
       exact (hr.rel i).ext hx2 (hr.live i) e3 hfr.1 hfr.2 (by
        show (if i < m then _ else if i = c then _ else _) = _
        rw [if_neg k,if_neg e1])
  ·by_cases e2:i = a
   ·subst e2
    rw [oa]
    rcases hLe:L' with _ | ⟨xs,k⟩
    ·intro j x hx
     obtain rfl :=node1_get hx
     trivial
    ·intro j x hx
     obtain rfl :=node1_get hx
     refine ⟨Lives.mono lift xs (lxs' xs k hLe),fun c' e => ?_⟩
     cases e
     show H2.o c ≠ .hole
     rw [oc,hLe];exact fun e => nomatch e
   ·by_cases e1:i = c
    ·subst e1
     rw [oc]
     rcases L' with _ | ⟨xs,k⟩ <;> trivial
    ·by_cases k:i < m
     ·rw [oo i e2 e1,hH i k e2]
      have q1 :=ho1.rel.live i
      rw [h1 i k e2] at q1
      exact OLive.mono lift (OLive.below q1 (hb i k e2))
     ·rw [oo i e2 e1];exact OLive.mono hL2 (hr.live i)
  ·show OBd (max (i + 1) (max (c + 1) H.keep)) _
   by_cases e2:i = a
   ·subst e2
    rw [oa]
    rcases L' with _ | ⟨xs,k⟩
    ·intro j x hx
     obtain rfl :=node1_get hx
     exact Nat.zero_le _
    ·intro j x hx
     obtain rfl :=node1_get hx
     have hL':bdl xs ≤ m :=hL'
     exact Nat.max_le.2 ⟨by omega,by omega⟩
   ·by_cases e1:i = c
    ·subst e1
     rw [oc]
     rcases L' with _ | ⟨xs,k⟩ <;> trivial
    ·rw [oo i e2 e1]
     by_cases k:i < m
     ·rw [hH i k e2];exact (hb i k e2).mono (by omega)
     ·exact (hr.kp i).mono (by omega)
 refine ⟨g2,fr',w',⟨hrel,hx2,ho1.below,hL2,fun k hk hn => ?_,fun k ⟨i,hi,ek⟩ => ?_⟩,hs,hf,u',hlv,?_,?_⟩
 ·exact ho1.frame k hk fun q => hn (ownI k q)
 ·by_cases l:i < m ∨ i = c
  ·have q :=keyA i l hi
   rw [q.2] at ek
   rcases ho1.own k ⟨_,q.1,ek⟩ with h | h
   ·exact .inl (ownI k h)
   ·exact .inr h
  ·have q :=keyB i l hi
   rw [q.2] at ek
   exact .inl ⟨i,q.1,ek⟩
 ·exact VRel.ext hx1 v u' (Live.mono (fun _ h => h.2) v (Live.below v (hw.lv _ hlu) hbv)) (hw.wk _ _ _ hvu)
 ·exact Live.mono lift v (Live.below v (hw.lv _ hlu) hbv)
def ObEqA (b:Nat → AObj) (h:Tr AObj) (a:Nat) (k:Nat):Prop :=@Nat.rec (fun _ => Prop) True (fun i ih => (i = a ∨ hv h i = b i) ∧ ih) k
theorem ObEqA.lt {b:Nat → AObj} {h:Tr AObj} {a:Nat}:∀ {k:Nat},ObEqA b h a k → ∀ i,i < k → i ≠ a → hv h i = b i
 |k + 1,hk,i,hi,hn => by
  by_cases e:i = k
  ·subst e;exact hk.1.resolve_left hn
  ·exact ObEqA.lt hk.2 i (by omega) hn
def ObBdA (m:Nat) (b:Nat → AObj) (a:Nat) (k:Nat):Prop :=@Nat.rec (fun _ => Prop) True (fun i ih => (i = a ∨ BdO m (b i)) ∧ ih) k
theorem ObBdA.lt {m:Nat} {b:Nat → AObj} {a:Nat}:∀ {k:Nat},ObBdA m b a k → ∀ i,i < k → i ≠ a → OBd m (b i)
 |k + 1,hk,i,hi,hn => by
  by_cases e:i = k
  ·subst e;exact (hk.1.resolve_left hn).ok
  ·exact ObBdA.lt hk.2 i (by omega) hn
theorem hfunL_sym {P:Program} {E:EqT → PcT → Env} {q0:EqT} (hE:(E q0 (symPc P)).Ok) (hP:(E q0 (symPc P)).P = P) {f:FuncId} {args:List AV} {v:AV} {h:Tr AObj} {b:Nat → AObj} {m a n:Nat} {ty:TypeId} {sz:Nat} {e:TypeId} {L L':LState} (hend:HEnd h n) (hn:n = m + L.isSome.toNat) (ham:a < m) (ha:bdl args ≤ m) (hbv:bd v ≤ m) (hb:ObBdA m b a m) (hL:LBd m L) (hL':LBd m L') (hmono:L ≠ none → L' ≠ none)
  (hq:ObEqA b h a m) (hha:hv h a = lcell ty m L) (hhc:hv h m = lchn sz e L)
  (run:∀ S q pc,S = symSub P → q = q0 → pc = symPc P → (E q pc).Ok → exFn (E q pc) (step (E q pc) S) f .normal args .no h n fun r _ h1 _ _ => ∃ u c1,r = .ret u ∧ WkV u v ∧ m ≤ c1 ∧ (L ≠ none → c1 = m) ∧ ObEqA b h1 a m ∧ hv h1 a = lcell ty c1 L' ∧ (L' ≠ none → hv h1 c1 = lchn sz e L')):HFunL P f args b m a ty sz e L L' v :=by
 have hs :=step_ok hE
 obtain ⟨r,pm',h1,n1,_,⟨u,c1,rfl,hw,k1,k2,k3,k4,k5⟩,_,_,h3⟩ :=exFn_ok hE (S :=step (E q0 (symPc P)) (symSub P)) (by rw [hP] at hs;rw [hP];exact hs) f .normal args .no h n _ (run _ _ _ rfl rfl rfl hE) hend
 refine hfunL_of ham ha hb.lt hL hL' hbv hmono fun B Hc hc => ?_
 have hch:Hc.o = hv h :=by
  rw [hc];funext i
  by_cases e1:i = a
  ·subst e1;rw [if_pos rfl,hha]
  ·rw [if_neg e1]
   by_cases e2:i < m
   ·rw [if_pos e2,hq.lt i e2 e1]
   ·rw [if_neg e2]
    by_cases e3:i = m
    ·subst e3;rw [if_pos rfl,hhc]
    ·rw [if_neg e3]
     refine (hend.hole ?_).symm
     rw [hn]
     have:L.isSome.toNat ≤ 1 :=by cases L <;> exact Nat.le_of_ble_eq_true rfl
     omega
 obtain ⟨H1,q1,q2⟩ :=h3 B Hc hch
 rw [hP] at q2
 exact ⟨H1,u,c1,k1,k2,fun i hi hn => by rw [q1];exact k3.lt i hi hn,by rw [q1];exact k4,fun hL => by rw [q1];exact k5 hL,hw,CSem.of_F q2⟩
section
variable {P:Program} {S:Sub} (hS:S = symSub P) {f:FuncId} {args:List AV} {h:Tr AObj} {n:Nat} {K:AEnd → Tr AObj → Nat → List Nat → Prop} {b:Nat → AObj} {m a:Nat} {ty:TypeId} {sz:Nat} {e:TypeId} {v:AV}
include hS
theorem sym_hcallL0 (hf:HFunL P f args b m a ty sz e none none v) (hm:m ≤ n) (he:ObEqA b h a m) (ha:hv h a = lcell ty 0 none) (hk:K (.ret v) h n []):S.call f args h n K :=by
 subst hS
 intro hend
 refine ⟨.ret v,h,n,[],hk,hend,fun _ _ _ => rfl,fun B H hH => ⟨_,?_,hf B H n hm (fun i hi hn => by rw [hH];exact he.lt i hi hn) (by rw [hH];exact ha) (by rw [hH];exact hend.hole (Nat.le_refl _))⟩⟩
 funext i
 show (if i = a then _ else if i = n then _ else H.o i) = _
 by_cases e1:i = a
 ·subst e1;rw [if_pos rfl,ha];rfl
 ·rw [if_neg e1]
  by_cases e2:i = n
  ·subst e2;rw [if_pos rfl,hend.hole (Nat.le_refl _)];rfl
  ·rw [if_neg e2,hH]
theorem sym_hcallL1 {xs:List AV} {k:Nat} (hf:HFunL P f args b m a ty sz e none (some (xs,k)) v) (hm:m ≤ n) (ham:a < m) (he:ObEqA b h a m) (ha:hv h a = lcell ty 0 none) (h1:hv (tput [(a,lcell ty n (some (xs,k)))] h) a = lcell ty n (some (xs,k))) (h2:(tadd (pathOf n) (tput [(a,lcell ty n (some (xs,k)))] h) (.chain k sz e)).get n = some (.chain k sz e))
  (hk:K (.ret v) (tadd (pathOf n) (tput [(a,lcell ty n (some (xs,k)))] h) (.chain k sz e)) (n + 1) [a]):S.call f args h n K :=by
 subst hS
 intro hend
 have hne:∀ x,x ≠ a → hv (tput [(a,lcell ty n (some (xs,k)))] h) x = hv h x :=fun x hx => by unfold hv;rw [tput_ne _ _ _ (by simpa [keysOf] using hx)]
 have hadd:∀ x,x ≠ n → hv (tadd (pathOf n) (tput [(a,lcell ty n (some (xs,k)))] h) (.chain k sz e)) x = hv (tput [(a,lcell ty n (some (xs,k)))] h) x :=fun x hx => by
  unfold hv Tr.get
  rw [tadd_ne _ _ _ fun e => hx (pathOf_inj _ _ e).symm]
 refine ⟨.ret v,_,n + 1,[a],hk,appT_end [.chain k sz e] n _ (tput_end hend),fun x hx hn => ?_,fun B H hH => ⟨_,?_,hf B H n hm (fun i hi hn => by rw [hH];exact he.lt i hi hn) (by rw [hH];exact ha) (by rw [hH];exact hend.hole (Nat.le_refl _))⟩⟩
 ·rw [hadd x (by omega),hne x (by simpa using hn)]
 ·funext i
  show (if i = a then _ else if i = n then _ else H.o i) = _
  by_cases e1:i = a
  ·subst e1;rw [if_pos rfl,hadd i (by omega),h1]
  ·rw [if_neg e1]
   by_cases e2:i = n
   ·subst e2;rw [if_pos rfl];unfold hv;rw [h2];rfl
   ·rw [if_neg e2,hadd i e2,hne i e1,hH]
theorem sym_hcallL2 {xs ys:List AV} {j k:Nat} (hf:HFunL P f args b m a ty sz e (some (xs,j)) (some (ys,k)) v) (c:Nat) (hm:m ≤ c) (he:ObEqA b h a m) (ha:hv h a = lcell ty c (some (xs,j))) (hc:hv h c = .chain j sz e) (h1:hv (tput [(a,lcell ty c (some (ys,k))),(c,.chain k sz e)] h) a = lcell ty c (some (ys,k))) (h2:hv (tput [(a,lcell ty c (some (ys,k))),(c,.chain k sz e)] h) c = .chain k sz e)
  (hk:K (.ret v) (tput [(a,lcell ty c (some (ys,k))),(c,.chain k sz e)] h) n [a,c]):S.call f args h n K :=by
 subst hS
 intro hend
 have hne:∀ x,x ≠ a → x ≠ c → hv (tput [(a,lcell ty c (some (ys,k))),(c,.chain k sz e)] h) x = hv h x :=fun x hx hy => by unfold hv;rw [tput_ne _ _ _ (by simp [keysOf,hx,hy])]
 refine ⟨.ret v,_,n,[a,c],hk,tput_end hend,fun x _ hx => ?_,fun B H hH => ⟨_,?_,hf B H c hm (fun i hi hn => by rw [hH];exact he.lt i hi hn) (by rw [hH];exact ha) (by rw [hH];exact hc)⟩⟩
 ·simp only [List.mem_cons,List.not_mem_nil,or_false,not_or] at hx
  exact hne x hx.1 hx.2
 ·funext i
  show (if i = a then _ else if i = c then _ else H.o i) = _
  by_cases e1:i = a
  ·subst e1;rw [if_pos rfl,h1]
  ·rw [if_neg e1]
   by_cases e2:i = c
   ·subst e2;rw [if_pos rfl,h2];rfl
   ·rw [if_neg e2,hne i e1 e2,hH]
end
end
end Go.Abs

/-! Code cut between two parts: the first part ends in one of some states, of each of which less may be known; the second part is carried out from there once. -/
namespace Go.Abs
open Go
noncomputable section
end
end Go.Abs

/-! From a pure call to the kit's own words, with arguments. -/
namespace Go.Abs
open Go
noncomputable section
def ghOf (m:Nat → Nat) (w:World):Gh :=⟨fun _ => 0,fun b => if b < w.heap.size then m b else 0,fun _ => 0,fun _ => 0,fun _ => 0⟩
theorem HRel.old (m:Nat → Nat) (w:World):HRel (ghOf m w) w.heap.size w AH.nil where
 wf :=fun _ _ => rfl
 ge :=fun _ h => absurd rfl h
 inj :=fun _ _ h => absurd rfl h
 rel :=fun _ => trivial
 live :=fun _ => trivial
 kp :=fun _ => trivial
 imz :=fun _ hb => if_neg (Nat.not_lt.2 hb)
 hB :=Nat.le_refl _
theorem Pure.callsAt {P:Program} {f:FuncId} {args:List AV} {b:Bool} (h:Pure P f args (.bool b)) {w:World} {vs:Array Value} (m:Nat → Nat) (hv:VRels (ghOf m w) w args vs.toList) (hl:Lives noL args) :
  Calls P f vs w (fun e w' => e = .returned (.bool b) ∧ RowKit.Below w.heap.size w w') :=by
 intro cs
 obtain ⟨g',fr',w',h1,h2,h3,u,h4,h5,_⟩ :=h.2 w.heap.size AH.nil _ vs cs w (HRel.old m w) hv hl.ofNo
 simp only [VRel] at h5
 subst h5
 exact ⟨.returned (.bool b),w',fr',⟨rfl,h1.below⟩,h2,h3,h4⟩
/-! What the arguments stand for. -/
theorem VRels.one {g:Gh} {w:World} {x:AV} {u:Value} {xs:List AV} {us:List Value} (h:VRel g w x u) (hs:VRels g w xs us):VRels g w (x :: xs) (u :: us) :=⟨u,us,rfl,h,hs⟩
end
end Go.Abs
