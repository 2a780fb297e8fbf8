/-
  Operations within a frame; regions in order.
-/
import Derived.Test.YtnimgfkggbnjoaaGreatDoorXU2
import Derived.Orders
/-! Operations within a frame; regions in order. -/
namespace Go.Abs
open Go
noncomputable section
inductive AEnd where
 |ret (v:AV)
 |panic (l:List (AV × Bool))
def qz6 (P:Program) (g:Gh) (w:World) (L:Nat → Prop) (e:AEnd) (fr:Frame):Prop :=
 match e with
 | .ret v => ∃ u,fr.leaving P w (.returned u) ∧ VRel g w v u ∧ Live L v
 | .panic l => ∃ chain,fr.leaving P w (.panicked chain) ∧ qce g w L l chain
def CSem (P:Program) (B:Nat) (f:FuncId) (args:List AV) (H:AH) (e:AEnd) (H':AH):Prop :=
 ∀ g vs cs w,HRel g B w H → VRels g w args vs.toList → Lives H.L args →
  ∃ g' fr' w',Out g B w H g' w' H' ∧ Steps P (lone (Frame.enter P f vs .normal) cs w) (lone fr' cs w') ∧ fr'.fn = f ∧ qz6 P g' w' H'.L e fr'
section
variable {P:Program} {B:Nat} {σ σ1 σ':St} {e:AEx} {T:Tr TypeInfo} {F:Tr Func} {X:XT}
theorem qce.ext {L L':Nat → Prop} {g g':Gh} {w w':World} (hx:Ext L g w g' w') (hl:∀ i,L i → L' i):∀ {l:List (AV × Bool)} {es:List PanicEntry},qce g w L l es → qce g' w' L' l es
 | [],_,h => h
 |(_,_) :: _,_,h => by
  obtain ⟨e,es',e1,h1,h2,h3,h4,h5⟩ :=h
  exact ⟨e,es',e1,h1.ext hx _ _ h2,h2.mono hl,h3,h4,qce.ext hx hl h5⟩
theorem qhn.ext {L L':Nat → Prop} {g g':Gh} {w w':World} (hx:Ext L g w g' w') (hl:∀ i,L i → L' i):∀ {l:List ADf} {ds:List Deferred},qhn g w L l ds → qhn g' w' L' l ds
 | [],_,h => h
 | .call f args :: _,_,h => by
  obtain ⟨d,ds',e1,⟨cap,as,e2,h1⟩,h2,h3⟩ :=h
  exact ⟨d,ds',e1,⟨cap,as,e2,h1.ext hx _ _ h2⟩,h2.mono hl,qhn.ext hx hl h3⟩
 | .mark o :: _,_,h => by
  obtain ⟨ds',e1,h1,h2⟩ :=h
  exact ⟨ds',by rw [hx.ob o h1];exact e1,hl o h1,qhn.ext hx hl h2⟩
theorem qfr.ext {L L':Nat → Prop} {g g':Gh} {w w':World} (hx:Ext L g w g' w') (hl:∀ i,L i → L' i) {pm:APm} {fr:Frame} {cs:List Frame} (h:qfr g w L pm fr cs):qfr g' w' L' pm fr cs :=by
 cases pm with
 |no => trivial
 |ret => exact h
 |pan l =>
  obtain ⟨h1,h2,c0,rest,chain,h3,h4,h5⟩ :=h
  exact ⟨h1,h2,c0,rest,chain,h3,h4,h5.ext hx hl⟩
theorem FRel.ext {L L':Nat → Prop} {g g':Gh} {w w':World} (hx:Ext L g w g' w') (hl:∀ i,L i → L' i) {tm:Tr AV} {arr:Array Value} (h:FRel g w L tm arr):FRel g' w' L' tm arr :=
 ⟨fun t a ht => ⟨(h.rel t a ht).1,(h.rel t a ht).2.ext hx _ _ (h.live t a ht)⟩,fun t a ht => (h.live t a ht).mono hl⟩
theorem FrRel.out {g g':Gh} {w w':World} {fr:Frame} {cs:List Frame} {H':AH} (h:FrRel g B w σ fr cs) (ho:Out g B w σ.H g' w' H'):FrRel g' B w' { σ with H :=H' } fr cs :=
 ⟨ho.rel,h.tm.ext ho.ext ho.L,h.df.ext ho.ext ho.L,h.pm.ext ho.ext ho.L,h.rd⟩
theorem FRel.set {L:Nat → Prop} {g:Gh} {w:World} {tm tm':Tr AV} {arr:Array Value} (h:FRel g w L tm arr) {d:Nat} {v:AV} {u:Value} (hd:∃ y,tm.get d = some y)
  (ht:∀ j,tm'.get j = if j = d then some v else tm.get j) (hv:VRel g w v u) (hl:Live L v):FRel g w L tm' (arr.setIfInBounds d u) :=by
 obtain ⟨y,hy⟩ :=hd
 have hlt :=(h.rel d y hy).1
 constructor
 ·intro t a ha
  rw [ht] at ha
  by_cases e:t = d
  ·subst e
   rw [if_pos rfl] at ha
   cases ha
   refine ⟨by simpa using hlt,?_⟩
   rw [Array.getD_eq_getD_getElem?,Array.getElem?_setIfInBounds_self_of_lt hlt]
   exact hv
  ·rw [if_neg e] at ha
   obtain ⟨h1,h2⟩ :=h.rel t a ha
   refine ⟨by simpa using h1,?_⟩
   rw [Array.getD_eq_getD_getElem?,Array.getElem?_setIfInBounds_ne (by omega),← Array.getD_eq_getD_getElem?]
   exact h2
 ·intro t a ha
  rw [ht] at ha
  by_cases e:t = d
  ·rw [if_pos e] at ha;cases ha;exact hl
  ·rw [if_neg e] at ha;exact h.live t a ha
def SetD (tm:Tr AV) (dst:Option Tmp) (v:AV) (tm':Tr AV):Prop :=
 match dst with
 |none => tm' = tm
 |some d => (∃ y,tm.get d = some y) ∧ ∀ j,tm'.get j = if j = d then some v else tm.get j
theorem qca {fr:Frame} {ops:Array Oper} {i:Nat} {rest:List Nat} {k:List Item} (ht:fr.todo = .inRegion ops (i :: rest) :: k) {o:Oper} (ho:ops[i]? = some o) (v:Value) :
  fr.finish v = { fr with tmps :=(match o.dst with | some d => fr.tmps.setIfInBounds d v | none => fr.tmps),todo :=.inRegion ops rest :: k } :=by
 unfold Frame.finish
 rw [ht]
 simp only [ho,Option.bind_some]
 cases o.dst <;> rfl
theorem FrRel.finish {g:Gh} {w:World} {fr:Frame} {cs:List Frame} (h:FrRel g B w σ fr cs) {ops:Array Oper} {i:Nat} {rest:List Nat} {k:List Item}
  (ht:fr.todo = .inRegion ops (i :: rest) :: k) {o:Oper} (ho:ops[i]? = some o) {v:AV} {u:Value} (hv:VRel g w v u) (hl:Live σ.H.L v) {tm':Tr AV} (hs:SetD σ.tm o.dst v tm') :
  FrRel g B w { σ with tm :=tm' } (fr.finish u) cs :=by
 rw [qca ht ho]
 refine ⟨h.h,?_,h.df,?_,h.rd⟩
 ·cases hd:o.dst with
  |none =>
   rw [hd] at hs
   have hs:tm' = σ.tm :=hs
   rw [hs];exact h.tm
  |some d =>
   rw [hd] at hs
   exact h.tm.set hs.1 hs.2 hv hl
 ·have :=h.pm
  unfold qfr at *
  split at this <;> simp_all
def OpS (P:Program) (B:Nat) (ops:Array Oper) (i:Nat) (σ:St) (e:AEx) (σ':St):Prop :=
 ∀ g fr cs w rest k,FrRel g B w σ fr cs → fr.mode = .run → fr.todo = .inRegion ops (i :: rest) :: k →
  ∃ g' fr' cs' w',FrRel g' B w' σ' fr' cs' ∧ Out g B w σ.H g' w' σ'.H ∧ SameFr fr fr' ∧ CsOk σ.pm cs cs' ∧ ((∀ l,σ.pm ≠ .pan l) → ∀ l,σ'.pm ≠ .pan l) ∧
   (match e with
    | .normal => fr'.mode = .run ∧ fr'.todo = .inRegion ops rest :: k
    | .panic l => ∃ chain,fr'.mode = .panicking chain ∧ qce g' w' σ'.H.L l chain
    | _ => False) ∧ Steps P (lone fr cs w) (lone fr' cs' w')
def qos (ops:Array Oper) (tm:Tr AV) (o:Oper):Option Bool :=
 match o.guard with
 |none => some true
 |some (j,want) => match ops[j]? with
  |some oj => match oj.dst with
   |some d => match tm.get d with
    |some (.bool b) => some (b == want)
    |some (.tup _) => some false
    | _ => none
   |none => none
  |none => none
def qzc (want:Bool) (x:AV):Option Bool :=
 match x with
 | .bool b => some (@Bool.rec (fun _ => Bool) (@Bool.rec (fun _ => Bool) true false want) want b)
 | .tup _ => some false
 | _ => none
def qv6 (p:Nat × Bool) (ops:Array Oper) (tm:Tr AV):Option Bool :=
 @Option.rec Oper (fun _ => Option Bool) none (fun oj => @Option.rec Tmp (fun _ => Option Bool) none (fun d => @Option.rec AV (fun _ => Option Bool) none (fun x => qzc p.2 x) (tm.get d)) oj.dst) (ops.toList[p.1]?)
def qcv (ops:Array Oper) (tm:Tr AV) (o:Oper):Option Bool :=
 @Option.rec (Nat × Bool) (fun _ => Option Bool) (some true) (fun p => qv6 p ops tm) o.guard
theorem qio (ops:Array Oper) (tm:Tr AV) (o:Oper):qcv ops tm o = qos ops tm o :=by
 unfold qcv qos
 cases o.guard with
 |none => rfl
 |some p =>
  obtain ⟨j,want⟩ :=p
  simp only [qv6,Array.getElem?_toList]
  cases ops[j]? with
  |none => rfl
  |some oj =>
   simp only
   cases oj.dst with
   |none => rfl
   |some d =>
    simp only
    cases tm.get d with
    |none => rfl
    |some x =>
     simp only
     cases x <;> first
      |rfl
      |(rename_i b;cases b <;> cases want <;> rfl)
theorem qdr {g:Gh} {w:World} {L:Nat → Prop} {ops:Array Oper} {tm:Tr AV} {arr:Array Value} (h:FRel g w L tm arr) {o:Oper} {b:Bool} (hg:qcv ops tm o = some b) :
  Region.wanted o (yielded ops arr) = b :=by
 rw [qio] at hg
 unfold qos at hg
 unfold Region.wanted
 split at hg
 ·rename_i e
  simp only [Option.some.injEq] at hg
  rw [e,hg]
 ·rename_i j want e
  rw [e]
  split at hg <;> try cases hg
  rename_i oj hoj
  split at hg <;> try cases hg
  rename_i d hd
  split at hg
  ·rename_i b' hb
   cases hg
   obtain ⟨h1,h2⟩ :=h.rel d _ hb
   simp only [VRel] at h2
   have h3:arr[d]? = some (.bool b') :=by
    rw [Array.getD_eq_getD_getElem?,Array.getElem?_eq_getElem h1] at h2
    simp only [Option.getD_some] at h2
    rw [Array.getElem?_eq_getElem h1,h2]
   simp [yielded,hoj,hd,h3]
  ·rename_i l hb
   cases hg
   obtain ⟨h1,h2⟩ :=h.rel d _ hb
   obtain ⟨vs,h2,_⟩ :=h2
   have h3:arr[d]? = some (.tuple vs) :=by
    rw [Array.getD_eq_getD_getElem?,Array.getElem?_eq_getElem h1] at h2
    simp only [Option.getD_some] at h2
    rw [Array.getElem?_eq_getElem h1,h2]
   simp [yielded,hoj,hd,h3]
  ·cases hg
theorem qpd {fr:Frame} {cs:List Frame} {w:World} {ops:Array Oper} {i:Nat} {rest:List Nat} {k:List Item} {o:Oper} (hm:fr.mode = .run) (ht:fr.todo = .inRegion ops (i :: rest) :: k)
  (ho:ops[i]? = some o) (hw:Region.wanted o (yielded ops fr.tmps) = false):Steps P (lone fr cs w) (lone (fr.finish undef) cs w) :=
 qcj (by simp [stepG,stepG.exec,hm,ht,ho,hw])
theorem qdm {fr:Frame} {cs:List Frame} {w:World} {ops:Array Oper} {i:Nat} {rest:List Nat} {k:List Item} {o:Oper} (hm:fr.mode = .run) (ht:fr.todo = .inRegion ops (i :: rest) :: k)
  (ho:ops[i]? = some o) (hw:Region.wanted o (yielded ops fr.tmps) = true) (hd:fr.roundOf = none ∨ ∀ c,o.op ≠ .defer c) :
  stepG P true { frame :=fr,callers :=cs,status :=.running,dying :=none } w = stepG.apply P true fr cs none (execOp fr.eval o) w :=by
 have h1:fr.oper? = some o :=by simp [Frame.oper?,ht,ho]
 simp only [stepG,hm,stepG.exec,ht,ho,Option.map_some,hw,Option.getD_some,if_true,stepG.oper,h1]
 rcases hd with hd | hd
 ·simp [hd]
 ·cases hr:fr.roundOf with
  |none => rfl
  |some l =>
   split
   ·rename_i e1 e2
    exact absurd e2 (hd _)
   ·rfl
theorem OpS.skip {ops:Array Oper} {i:Nat} {o:Oper} (ho:ops[i]? = some o) (hg:qcv ops σ.tm o = some false) {tm':Tr AV} (hs:SetD σ.tm o.dst (.tup []) tm'):OpS P B ops i σ .normal { σ with tm :=tm' } :=by
 intro g fr cs w rest k hr hm ht
 have hu:VRel g w (.tup []) undef :=by simp only [VRel];exact ⟨#[],rfl,by simp [VRels]⟩
 refine ⟨g,fr.finish undef,cs,w,hr.finish ht ho hu trivial hs,Out.refl hr.h,?_,CsOk.refl _ _ _ hr.pm,fun h => h,?_,qpd hm ht ho (qdr hr.tm hg)⟩
 ·rw [qca ht ho];exact ⟨rfl,rfl,rfl⟩
 ·rw [qca ht ho];exact ⟨hm,rfl⟩
theorem qkm (hT:TOK P T) (hF:FOK P F) {g:Gh} {w:World} {fr:Frame} {cs:List Frame} (hr:FrRel g B w σ fr cs) {s:Nat} (hs:σ.H.o s = .hole) :
  OCtx P T F g B w σ.H s (aev σ.tm) fr.eval :=
 ⟨hT,hF,hr.h,hs,fun x => by
  have :=hr.tm.ev (a :={ tmps :=fr.tmps,defers :=fr.defers }) hr.h.gl x
  cases x <;> exact this,fun x => hr.tm.evl x⟩
theorem qeh {o:Oper} {s:Nat} {ho:Nat → AObj} {r:PRes} {R:List Nat} {W:WL} {ev:Operand → AV} (h:EvF s (pOp P T F X ev o) ho r R W) (hr:∀ f args,r ≠ .defr f args):∀ c,o.op ≠ .defer c :=by
 intro c hc
 rw [qn8] at h
 unfold pOpM at h
 rw [hc] at h
 simp only at h
 split at h
 ·unfold qll at h
  split at h <;> try exact h.elim
  split at h <;> try exact h.elim
  exact hr _ _ h.1
 ·exact h.elim
theorem OpS.val (hT:TOK P T) (hF:FOK P F) (hX:XOK P X) {ops:Array Oper} {i s:Nat} {o:Oper} (ho:ops[i]? = some o) (hg:qcv ops σ.tm o = some true) (hsl:σ.H.o s = .hole) {v:AV} {R:List Nat} {W:WL}
  (hev:EvF s (pOp P T F X (aev σ.tm) o) σ.H.o (.val v) R W) {tm':Tr AV} (hs:SetD σ.tm o.dst v tm'):OpS P B ops i σ .normal { σ with tm :=tm',H :=σ.H.app W } :=by
 intro g fr cs w rest k hr hm ht
 obtain ⟨u,g',w',h1,h2,h3,h4⟩ :=qgs (qkm hT hF hr hsl) hX hev
 have hst :=qdm (P :=P) (cs :=cs) (w :=w) hm ht ho (qdr hr.tm hg) (.inr (qeh hev (by intro f args e;cases e)))
 have hr' :=hr.out h2
 refine ⟨g',fr.finish u,cs,w',hr'.finish ht ho h3 h4 hs,h2,?_,CsOk.refl _ _ _ hr.pm,fun h => h,?_,qcj ?_⟩
 ·rw [qca ht ho];exact ⟨rfl,rfl,rfl⟩
 ·rw [qca ht ho];exact ⟨hm,rfl⟩
 ·rw [hst];simp [stepG.apply,h1]
theorem OpS.none (hT:TOK P T) (hF:FOK P F) (hX:XOK P X) {ops:Array Oper} {i s:Nat} {o:Oper} (ho:ops[i]? = some o) (hg:qcv ops σ.tm o = some true) (hsl:σ.H.o s = .hole) {R:List Nat} {W:WL}
  (hev:EvF s (pOp P T F X (aev σ.tm) o) σ.H.o .skip R W) {tm':Tr AV} (hs:SetD σ.tm o.dst (.tup []) tm'):OpS P B ops i σ .normal { σ with tm :=tm',H :=σ.H.app W } :=by
 intro g fr cs w rest k hr hm ht
 obtain ⟨g',w',h1,h2⟩ :=qgs (qkm hT hF hr hsl) hX hev
 have hst :=qdm (P :=P) (cs :=cs) (w :=w) hm ht ho (qdr hr.tm hg) (.inr (qeh hev (by intro f args e;cases e)))
 have hr' :=hr.out h2
 have hu:VRel g' w' (.tup []) undef :=by simp only [VRel];exact ⟨#[],rfl,by simp [VRels]⟩
 refine ⟨g',fr.finish undef,cs,w',hr'.finish ht ho hu trivial hs,h2,?_,CsOk.refl _ _ _ hr.pm,fun h => h,?_,qcj ?_⟩
 ·rw [qca ht ho];exact ⟨rfl,rfl,rfl⟩
 ·rw [qca ht ho];exact ⟨hm,rfl⟩
 ·rw [hst];simp [stepG.apply,h1]
theorem OpS.call (hT:TOK P T) (hF:FOK P F) (hX:XOK P X) {ops:Array Oper} {i s:Nat} {o:Oper} (ho:ops[i]? = some o) (hg:qcv ops σ.tm o = some true) (hsl:σ.H.o s = .hole) {f:FuncId} {args:List AV} {R:List Nat} {W:WL}
  (hev:EvF s (pOp P T F X (aev σ.tm) o) σ.H.o (.call f args) R W) {v:AV} {H':AH} (hc:CSem P B f args σ.H (.ret v) H') {tm':Tr AV} (hs:SetD σ.tm o.dst v tm') :
  OpS P B ops i σ .normal { σ with tm :=tm',H :=H' } :=by
 intro g fr cs w rest k hr hm ht
 obtain ⟨rfl,vs,h1,h2,h3⟩ :=qgs (qkm hT hF hr hsl) hX hev
 have hst :=qdm (P :=P) (cs :=cs) (w :=w) hm ht ho (qdr hr.tm hg) (.inr (qeh hev (by intro f args e;cases e)))
 obtain ⟨g',fr',w',k1,k2,k3,u,k4,k5,k6⟩ :=hc g vs (fr :: cs) w hr.h h2 h3
 have hr' :=hr.out k1
 refine ⟨g',fr.finish u,cs,w',hr'.finish ht ho k5 k6 hs,k1,?_,CsOk.refl _ _ _ hr.pm,fun h => h,?_,?_⟩
 ·rw [qca ht ho];exact ⟨rfl,rfl,rfl⟩
 ·rw [qca ht ho];exact ⟨hm,rfl⟩
 ·refine Steps.trans (qcj (fr' :=Frame.enter P f vs .normal) (cs' :=fr :: cs) (w' :=w) ?_) (Steps.trans k2 (.one (step_leave_returned k4)))
  rw [hst];simp [stepG.apply,h1,ht]
theorem OpS.callPanic (hT:TOK P T) (hF:FOK P F) (hX:XOK P X) {ops:Array Oper} {i s:Nat} {o:Oper} (ho:ops[i]? = some o) (hg:qcv ops σ.tm o = some true) (hsl:σ.H.o s = .hole) {f:FuncId} {args:List AV} {R:List Nat} {W:WL}
  (hev:EvF s (pOp P T F X (aev σ.tm) o) σ.H.o (.call f args) R W) {l:List (AV × Bool)} {H':AH} (hc:CSem P B f args σ.H (.panic l) H') :
  OpS P B ops i σ (.panic l) { σ with H :=H' } :=by
 intro g fr cs w rest k hr hm ht
 obtain ⟨rfl,vs,h1,h2,h3⟩ :=qgs (qkm hT hF hr hsl) hX hev
 have hst :=qdm (P :=P) (cs :=cs) (w :=w) hm ht ho (qdr hr.tm hg) (.inr (qeh hev (by intro f args e;cases e)))
 obtain ⟨g',fr',w',k1,k2,k3,chain,k4,k5⟩ :=hc g vs (fr :: cs) w hr.h h2 h3
 have hr' :=hr.out k1
 have hraise:fr.raise chain = { fr with mode :=.panicking chain } :=by simp [Frame.raise,hm]
 refine ⟨g',fr.raise chain,cs,w',by rw [hraise];exact hr'.mode _,k1,by rw [hraise];exact ⟨rfl,rfl,rfl⟩,CsOk.refl _ _ _ hr.pm,fun h => h,⟨chain,by rw [hraise],k5⟩,?_⟩
 refine Steps.trans (qcj (fr' :=Frame.enter P f vs .normal) (cs' :=fr :: cs) (w' :=w) ?_) (Steps.trans k2 (.one (step_leave_panicked k4)))
 rw [hst];simp [stepG.apply,h1,ht]
theorem OpS.panic (hT:TOK P T) (hF:FOK P F) (hX:XOK P X) {ops:Array Oper} {i s:Nat} {o:Oper} (ho:ops[i]? = some o) (hg:qcv ops σ.tm o = some true) (hsl:σ.H.o s = .hole) {v:AV} {R:List Nat} {W:WL}
  (hev:EvF s (pOp P T F X (aev σ.tm) o) σ.H.o (.panic v) R W):OpS P B ops i σ (.panic [(v,false)]) σ :=by
 intro g fr cs w rest k hr hm ht
 obtain ⟨rfl,u,h1,h2,h3⟩ :=qgs (qkm hT hF hr hsl) hX hev
 have hst :=qdm (P :=P) (cs :=cs) (w :=w) hm ht ho (qdr hr.tm hg) (.inr (qeh hev (by intro f args e;cases e)))
 have hraise:fr.raise [{ v :=u,recovered :=false }] = { fr with mode :=.panicking [{ v :=u,recovered :=false }] } :=by simp [Frame.raise,hm]
 refine ⟨g,fr.raise [{ v :=u,recovered :=false }],cs,w,by rw [hraise];exact hr.mode _,Out.refl hr.h,by rw [hraise];exact ⟨rfl,rfl,rfl⟩,CsOk.refl _ _ _ hr.pm,fun h => h,
  ⟨[{ v :=u,recovered :=false }],by rw [hraise],?_⟩,?_⟩
 ·simp only [qce]
  exact ⟨_,_,rfl,h2,h3,rfl,rfl,rfl⟩
 ·refine qcj ?_
  rw [hst];simp [stepG.apply,h1]
theorem OpS.defr (hT:TOK P T) (hF:FOK P F) (hX:XOK P X) {ops:Array Oper} {i s:Nat} {o:Oper} (ho:ops[i]? = some o) (hg:qcv ops σ.tm o = some true) (hsl:σ.H.o s = .hole) (hrd:σ.rd = false) {f:FuncId} {args:List AV} {R:List Nat} {W:WL}
  (hev:EvF s (pOp P T F X (aev σ.tm) o) σ.H.o (.defr f args) R W) {tm':Tr AV} (hs:SetD σ.tm o.dst (.tup []) tm'):OpS P B ops i σ .normal { σ with tm :=tm',df :=.call f args :: σ.df } :=by
 intro g fr cs w rest k hr hm ht
 obtain ⟨rfl,d,h1,h2,h3⟩ :=qgs (qkm hT hF hr hsl) hX hev
 have hst :=qdm (P :=P) (cs :=cs) (w :=w) hm ht ho (qdr hr.tm hg) (.inl (hr.rd hrd))
 have hr':FrRel g B w { σ with df :=.call f args :: σ.df } { fr with defers :=d :: fr.defers } cs :=⟨hr.h,hr.tm,⟨d,_,rfl,h2,h3,hr.df⟩,by
  have :=hr.pm
  unfold qfr at *
  split at this <;> simp_all,hr.rd⟩
 have ht':({ fr with defers :=d :: fr.defers }:Frame).todo = .inRegion ops (i :: rest) :: k :=ht
 have hu:VRel g w (.tup []) undef :=by simp only [VRel];exact ⟨#[],rfl,by simp [VRels]⟩
 refine ⟨g,({ fr with defers :=d :: fr.defers }:Frame).finish undef,cs,w,hr'.finish ht' ho hu trivial hs,Out.refl hr.h,?_,CsOk.refl _ _ _ hr.pm,fun h => h,?_,qcj ?_⟩
 ·rw [qca ht' ho];exact ⟨rfl,rfl,rfl⟩
 ·rw [qca ht' ho];exact ⟨hm,rfl⟩
 ·rw [hst];simp [stepG.apply,h1]
theorem SemT.region_nil {ops:Array Oper}:SemT P B [.inRegion ops []] σ .normal σ :=
 SemT.idle fun _ fr cs w k _ hm ht => qcj (by
  simp only [List.cons_append,List.nil_append] at ht
  simp [stepG,stepG.exec,hm,ht])
theorem SemT.region_cons {ops:Array Oper} {i:Nat} {rest:List Nat} (h:OpS P B ops i σ .normal σ1) (k:SemT P B [.inRegion ops rest] σ1 e σ'):SemT P B [.inRegion ops (i :: rest)] σ e σ' :=by
 intro g fr cs w kk hr hm ht hro k' hk
 obtain ⟨g1,fr1,cs1,w1,h1,h2,h3,h4,h5,h6,h7⟩ :=h g fr cs w rest kk hr hm (by simpa using ht)
 obtain ⟨g2,fr2,cs2,w2,f1,f2,f3,f4,f5,f6,f7⟩ :=k g1 fr1 cs1 w1 kk h1 h6.1 (by simpa using h6.2) (fun e => h3.round.trans (hro e)) k' hk
 exact ⟨g2,fr2,cs2,w2,f1,h2.trans f2,h3.trans f3,h4.trans f4 h5,fun hp => f5 (h5 hp),f6,h7.trans f7⟩
theorem SemT.region_panic {ops:Array Oper} {i:Nat} {rest:List Nat} {l:List (AV × Bool)} (h:OpS P B ops i σ (.panic l) σ'):SemT P B [.inRegion ops (i :: rest)] σ (.panic l) σ' :=by
 intro g fr cs w kk hr hm ht hro k' hk
 obtain ⟨g1,fr1,cs1,w1,h1,h2,h3,h4,h5,h6,h7⟩ :=h g fr cs w rest kk hr hm (by simpa using ht)
 exact ⟨g1,fr1,cs1,w1,h1,h2,h3,h4,h5,h6,h7⟩
theorem Sem.region {id:Nat} {ops:Array Oper} (h:SemT P B [.inRegion ops (List.range ops.size)] σ e σ'):Sem P B (.region id ops false) σ e σ' :=
 SemT.ahead (its' :=[.inRegion ops (List.range ops.size)]) h (fun _ => rfl) fun _ fr cs w k _ hm ht => qcj (by
  simp only [List.cons_append,List.nil_append] at ht
  simp [stepG,stepG.exec,hm,ht])
end
end
end Go.Abs

/-! Functions: their bodies, deferred calls, results. -/
namespace Go.Abs
open Go
noncomputable section
section
variable {P:Program} {B:Nat} {σ σ1 σ':St} {T:Tr TypeInfo} {F:Tr Func} {X:XT}
theorem qrp (hT:TOK P T) {g:Gh} {w:World} {H:AH} (hr:HRel g B w H) {s:Nat} {t:TypeId} {av v:AV} {u:Value} {R:List Nat} {W:WL} (h:EvF s (qlk T t av) H.o (.val v) R W)
  (hu:VRel g w av u) (hl:Live H.L av):∃ a x,u = .pointer (some a) ∧ (loadVar t a).run P w = .ok x w ∧ VRel g w v x ∧ Live H.L v :=by
 unfold qlk at h
 split at h
 ·rename_i hag
  have hag' :=qhc hT hag w
  split at h <;> try exact h.elim
  rename_i i hi
  have hsz :=qcm hT hi w
  split at h
  ·rename_i o off
   simp only [VRel] at hu
   obtain ⟨R',_,h⟩ :=h
   simp only at h
   split at h <;> try exact h.elim
   rename_i tr n ty ho
   obtain ⟨hb,h⟩ :=h
   split at h <;> try exact h.elim
   rename_i l hln
   obtain ⟨e,_⟩ :=qbu h
   cases e
   obtain ⟨h1,h2⟩ :=qfl hln
   obtain ⟨cs,e1,e2,e3,e4⟩ :=hr.cellsAt ho (by simpa using hb) h1 h2
   have :=run_loadCells_list (P :=P) w ⟨g.ob o,off,none⟩ cs e2
   rw [e1] at this
   refine ⟨_,.agg cs.toArray,hu,by simp [loadVar,hag',hsz,this],?_,e4⟩
   simp only [VRel]
   exact ⟨_,rfl,by simpa using e3⟩
  ·rename_i xs off
   simp only [VRel] at hu
   obtain ⟨b,o0,hv,hb,hrr⟩ :=hu
   split at h <;> try exact h.elim
   rename_i l hln
   obtain ⟨e,_⟩ :=qbu h
   cases e
   obtain ⟨h1,h2⟩ :=qe0 hln
   rw [qgb] at h1
   obtain ⟨cs,e1,e2,e3⟩ :=hrr.piece h1 h2
   have :=run_loadCells_list (P :=P) w ⟨b,o0 + off,none⟩ cs e2
   rw [e1] at this
   refine ⟨_,.agg cs.toArray,hv,by simp [loadVar,hag',hsz,this],?_,?_⟩
   ·simp only [VRel]
    exact ⟨_,rfl,by simpa using e3⟩
   ·rw [h1]
    exact (Lives.drop hl off).take _
  ·exact h.elim
 ·rename_i hag
  have hag' :=qhc hT hag w
  split at h
  ·rename_i o off
   simp only [VRel] at hu
   obtain ⟨R',_,h⟩ :=h
   simp only at h
   split at h <;> try exact h.elim
   rename_i tr n ty ho
   obtain ⟨hb,h⟩ :=h
   split at h <;> try exact h.elim
   rename_i a ha
   obtain ⟨e,_⟩ :=qbu h
   cases e
   obtain ⟨a',x,e1,e2,e3,e4⟩ :=hr.cellAt ho (j :=off) (by simpa using hb)
   rw [ha] at e1
   injection e1 with e1
   subst e1
   exact ⟨_,x,hu,by simp [loadVar,hag',e2],e3,e4⟩
  ·rename_i xs off
   simp only [VRel] at hu
   obtain ⟨b,o0,hv,hb,hrr⟩ :=hu
   split at h <;> try exact h.elim
   rename_i a ha
   obtain ⟨e,_⟩ :=qbu h
   cases e
   rw [qfx] at ha
   obtain ⟨x,e2,e3⟩ :=hrr.get xs o0 off v ha
   exact ⟨_,x,hv,by simp [loadVar,hag',e2],e3,Lives.mem xs v hl (List.mem_of_getElem? ha)⟩
  ·exact h.elim
 ·exact h.elim
def qjj (arr:Array Value):ResultVar → Go.Sem Value
 | .tmp t => pure (arr.getD t undef)
 | .cell a t => do loadVar t (← asAddr (arr.getD a undef))
theorem qpk (fn:Func) (arr:Array Value):Go.results fn arr = (fn.results.mapM (qjj arr)) >>= fun vs => pure (if h:vs.size = 1 then vs[0] else .tuple vs) :=by
 unfold Go.results
 congr 1
def ResV (T:Tr TypeInfo) (tm:Tr AV) (o:Nat → AObj):List ResultVar → List AV → Prop
 | [],vs => vs = []
 | .tmp t :: rs,vs => ∃ vs',vs = aev tm (.tmp t) :: vs' ∧ ResV T tm o rs vs'
 | .cell a t :: rs,vs => ∃ v vs' R W,vs = v :: vs' ∧ EvF 0 (qlk T t (aev tm (.tmp a))) o (.val v) R W ∧ ResV T tm o rs vs'
def qga:List AV → AV
 | [v] => v
 |vs => .tup vs
theorem ResV.run (hT:TOK P T) {g:Gh} {w:World} {H:AH} (hr:HRel g B w H) {tm:Tr AV} {arr:Array Value} (hf:FRel g w H.L tm arr):∀ (rs:List ResultVar) (vs:List AV),ResV T tm H.o rs vs →
  ∃ us,(rs.mapM (qjj arr)).run P w = .ok us w ∧ VRels g w vs us ∧ Lives H.L vs
 | [],vs,h => by
  simp only [ResV] at h
  subst h
  exact ⟨[],by simp,by simp [VRels],trivial⟩
 | .tmp t :: rs,vs,h => by
  obtain ⟨vs',e,h⟩ :=h
  subst e
  obtain ⟨us,h1,h2,h3⟩ :=ResV.run hT hr hf rs vs' h
  have hv :=hf.ev (a :={ tmps :=arr,defers :=[] }) hr.gl (.tmp t)
  refine ⟨arr.getD t undef :: us,?_,?_,hf.evl _,h3⟩
  ·rw [List.mapM_cons]
   simp only [qjj,Go.Sem.run_bind,Go.Sem.run_pure,Result.andThen_ok,h1]
  ·simp only [VRels]
   exact ⟨_,_,rfl,hv,h2⟩
 | .cell a t :: rs,vs,h => by
  obtain ⟨v,vs',R,W,e,hl,h⟩ :=h
  subst e
  obtain ⟨us,h1,h2,h3⟩ :=ResV.run hT hr hf rs vs' h
  have hv :=hf.ev (a :={ tmps :=arr,defers :=[] }) hr.gl (.tmp a)
  obtain ⟨ad,x,e1,e2,e3,e4⟩ :=qrp hT hr hl hv (hf.evl _)
  have e1:arr.getD a undef = .pointer (some ad) :=e1
  refine ⟨x :: us,?_,?_,e4,h3⟩
  ·rw [List.mapM_cons]
   have:(qjj arr (.cell a t)).run P w = .ok x w :=by
    simp only [qjj,e1,asAddr,Go.Sem.run_bind,Go.Sem.run_pure,Result.andThen_ok,e2]
   simp only [Go.Sem.run_bind,this,Go.Sem.run_pure,Result.andThen_ok,h1]
  ·simp only [VRels]
   exact ⟨_,_,rfl,e3,h2⟩
theorem ResV.results (hT:TOK P T) {g:Gh} {w:World} {H:AH} (hr:HRel g B w H) {tm:Tr AV} {arr:Array Value} (hf:FRel g w H.L tm arr) {fn:Func} {vs:List AV} (h:ResV T tm H.o fn.results.toList vs) :
  ∃ u,(Go.results fn arr).run P w = .ok u w ∧ VRel g w (qga vs) u ∧ Live H.L (qga vs) :=by
 obtain ⟨us,h1,h2,h3⟩ :=ResV.run hT hr hf _ _ h
 have hrun:(fn.results.mapM (qjj arr)).run P w = .ok us.toArray w :=by
  rw [Array.mapM_eq_mapM_toList]
  have:∀ (m:Go.Sem (List Value)),m.run P w = .ok us w → (List.toArray <$> m).run P w = .ok us.toArray w :=fun m hm => by
   show (Go.Sem.bind m fun l => Go.Sem.pure l.toArray).run P w = _
   have hb :=Go.Sem.run_bind (P :=P) (w :=w) m (fun l => Go.Sem.pure l.toArray)
   exact hb.trans (by rw [hm];rfl)
  exact this _ h1
 have hlen :=h2.length
 rw [qpk]
 simp only [Go.Sem.run_bind]
 rw [hrun]
 simp only [Result.andThen_ok,Go.Sem.run_pure]
 cases vs with
 |nil =>
  simp only [VRels] at h2
  subst h2
  refine ⟨.tuple #[],by simp,?_,h3⟩
  simp only [qga,VRel]
  exact ⟨_,rfl,by simp [VRels]⟩
 |cons v vs =>
  cases vs with
  |nil =>
   obtain ⟨u,us',e,k1,k2⟩ :=h2
   simp only [VRels] at k2
   subst k2;subst e
   exact ⟨u,by simp,k1,h3.1⟩
  |cons v' vs =>
   refine ⟨.tuple us.toArray,?_,?_,h3⟩
   ·have:¬ us.toArray.size = 1 :=by simp [hlen]
    simp [hlen]
   ·simp only [qga,VRel]
    exact ⟨_,rfl,by simpa using h2⟩
/-! ### Deferred calls -/
inductive UMode where
 |ret
 |pan (l:List (AV × Bool))
def UmOk (g:Gh) (w:World) (L:Nat → Prop) (um:UMode) (m:FrameMode):Prop :=
 match um with
 | .ret => m = .returning
 | .pan l => ∃ chain,m = .panicking chain ∧ qce g w L l chain
def qk6 (P:Program) (g:Gh) (w:World) (L:Nat → Prop) (e:AEnd) (fr:Frame):Prop :=
 fr.defers = [] ∧ match e with
  | .ret v => fr.mode = .returning ∧ ∃ fn u,P.funcs[fr.fn]? = some fn ∧ (results fn fr.tmps).run P w = .ok u w ∧ VRel g w v u ∧ Live L v
  | .panic l => ∃ chain,fr.mode = .panicking chain ∧ qce g w L l chain ∧ ∃ fn,P.funcs[fr.fn]? = some fn
def FSem (P:Program) (B:Nat) (f:FuncId) (κ:CallKind) (args:List AV) (pm:APm) (H:AH) (e:AEnd) (pm':APm) (H':AH):Prop :=
 ∀ g vs cs w,HRel g B w H → VRels g w args vs.toList → Lives H.L args → qfr g w H.L pm (Frame.enter P f vs κ) cs →
  ∃ g' fr' cs' w',Out g B w H g' w' H' ∧ Steps P (lone (Frame.enter P f vs κ) cs w) (lone fr' cs' w') ∧ fr'.fn = f ∧ fr'.kind = κ ∧ CsOk pm cs cs' ∧
   qfr g' w' H'.L pm' fr' cs' ∧ qk6 P g' w' H'.L e fr'
def USem (P:Program) (B:Nat) (f:FuncId) (um:UMode) (σ:St) (e:AEnd) (pm':APm) (H':AH):Prop :=
 ∀ g fr cs w,FrRel g B w σ fr cs → fr.fn = f → UmOk g w σ.H.L um fr.mode →
  ∃ g' fr' cs' w',Out g B w σ.H g' w' H' ∧ Steps P (lone fr cs w) (lone fr' cs' w') ∧ SameFr fr fr' ∧ CsOk σ.pm cs cs' ∧ qfr g' w' H'.L pm' fr' cs' ∧ qk6 P g' w' H'.L e fr'
theorem UmOk.ext {L L':Nat → Prop} {g g':Gh} {w w':World} (hx:Ext L g w g' w') (hl:∀ i,L i → L' i) {um:UMode} {m:FrameMode} (h:UmOk g w L um m):UmOk g' w' L' um m :=by
 cases um with
 |ret => exact h
 |pan l =>
  obtain ⟨chain,h1,h2⟩ :=h
  exact ⟨chain,h1,h2.ext hx hl⟩
theorem USem.done_ret (hT:TOK P T) {f:FuncId} {fn:Func} (hf:P.funcs[f]? = some fn) {vs:List AV} (hdf:σ.df = []) (hres:ResV T σ.tm σ.H.o fn.results.toList vs) :
  USem P B f .ret σ (.ret (qga vs)) σ.pm σ.H :=by
 intro g fr cs w hr hfn hm
 obtain ⟨u,h1,h2,h3⟩ :=hres.results hT hr.h hr.tm
 have hd :=hr.df
 rw [hdf] at hd
 exact ⟨g,fr,cs,w,Out.refl hr.h,Steps.refl _ _,⟨rfl,rfl,rfl⟩,CsOk.refl _ _ _ hr.pm,hr.pm,hd,hm,fn,u,by rw [hfn];exact hf,h1,h2,h3⟩
theorem USem.done_pan {f:FuncId} {fn:Func} (hf:P.funcs[f]? = some fn) {l:List (AV × Bool)} (hdf:σ.df = []):USem P B f (.pan l) σ (.panic l) σ.pm σ.H :=by
 intro g fr cs w hr hfn hm
 obtain ⟨chain,h1,h2⟩ :=hm
 have hd :=hr.df
 rw [hdf] at hd
 exact ⟨g,fr,cs,w,Out.refl hr.h,Steps.refl _ _,⟨rfl,rfl,rfl⟩,CsOk.refl _ _ _ hr.pm,hr.pm,hd,chain,h1,h2,fn,by rw [hfn];exact hf⟩
def qmf:APm → UMode
 | .no => .ret
 | .ret => .ret
 | .pan l => match l with
  | [] => .pan []
  |(v,b) :: r => match b with
   |true => .ret
   |false => .pan ((v,false) :: r)
def qq6 (l:List (AV × Bool)):APm → UMode
 | .pan l' => .pan (l ++ l')
 | _ => .pan l
def pmOf:UMode → APm
 | .ret => .ret
 | .pan l => .pan l
theorem qce.noGoexit {g:Gh} {w:World} {L:Nat → Prop}:∀ {l:List (AV × Bool)} {es:List PanicEntry},qce g w L l es → es.dropWhile (!·.goexit) = []
 | [],es,h => by simp only [qce] at h;subst h;rfl
 |(_,_) :: _,es,h => by
  obtain ⟨e,es',e1,_,_,_,h4,h5⟩ :=h
  subst e1
  simp [h4,qce.noGoexit h5]
theorem qqy {g:Gh} {w:World} {L:Nat → Prop} {l:List (AV × Bool)} {chain:List PanicEntry} (h:qce g w L l chain):UmOk g w L (qmf (.pan l)) (settle (.panicking chain)) :=by
 cases l with
 |nil =>
  have h' :=h
  simp only [qce] at h
  subst h
  exact ⟨[],rfl,h'⟩
 |cons p r =>
  obtain ⟨v,b⟩ :=p
  have h' :=h
  obtain ⟨e,es',e1,h1,h2,h3,h4,h5⟩ :=h
  subst e1
  cases b with
  |true =>
   show settle (.panicking (e :: es')) = .returning
   unfold settle
   obtain ⟨ev,er,eg⟩ :=e
   simp only at h3
   subst h3
   have :=h5.noGoexit
   simp only [this]
  |false =>
   refine ⟨e :: es',?_,h'⟩
   unfold settle
   obtain ⟨ev,er,eg⟩ :=e
   simp only at h3
   subst h3
   rfl
theorem qce.append {g:Gh} {w:World} {L:Nat → Prop}:∀ {l l':List (AV × Bool)} {es es':List PanicEntry},qce g w L l es → qce g w L l' es' → qce g w L (l ++ l') (es ++ es')
 | [],_,_,_,h,k => by simp only [qce] at h;subst h;simpa using k
 |(_,_) :: _,_,_,_,h,k => by
  obtain ⟨e,es',e1,h1,h2,h3,h4,h5⟩ :=h
  subst e1
  simp only [List.cons_append,qce]
  exact ⟨e,_,rfl,h1,h2,h3,h4,qce.append h5 k⟩
theorem qgg (hF:FOK P F) {f:FuncId} {fn:Func} (hf:F.get f = some fn) {c:Code} (hb:fn.body = some c) (args:Array Value) (w:World):(callFunc f args).run P w = .ok (.enter f args) w :=by
 obtain ⟨h1,h2⟩ :=hF f fn hf
 simp only [callFunc,Sem.run_bind,run_program,Result.andThen_ok,h1,h2,Bool.false_eq_true,if_false,hb,Option.isNone_some,Sem.run_pure]
theorem USem.call (hF:FOK P F) {f d:FuncId} {um um':UMode} {dfn:Func} {c:Code} (hd:F.get d = some dfn) (hb:dfn.body = some c) {args:List AV} {df:List ADf} (hdf:σ.df = .call d args :: df) {e:AEnd} {pm1:APm} {H1:AH}
  (hcall:FSem P B d .deferred args (pmOf um) σ.H e pm1 H1) (hpm1:match um with | .ret => pm1 = .ret | .pan _ => ∃ l,pm1 = .pan l)
  (hum:um' = match e with | .ret _ => qmf pm1 | .panic l => qq6 l pm1) {e':AEnd} {pm':APm} {H':AH}
  (hrest:USem P B f um' { σ with df :=df,H :=H1 } e' pm' H'):USem P B f um σ e' pm' H' :=by
 intro g fr cs w hr hfn hm
 have hdr :=hr.df
 rw [hdf] at hdr
 obtain ⟨dd,ds,e1,⟨cap,as,e2,h1⟩,h2,h3⟩ :=hdr
 have hmode:fr.mode ≠ .run :=by
  cases um with
  |ret => have:fr.mode = .returning :=hm;rw [this];simp
  |pan l => obtain ⟨chain,hc,_⟩ :=hm;rw [hc];simp
 have hinv:(invoke dd.target dd.args).run P w = .ok (.enter d (as ++ cap)) w :=by
  rw [e2];exact qgg hF hd hb _ w
 have hst :=step_defer (cs :=cs) hmode e1 (by rw [e2]) hinv
 have hpm:qfr g w σ.H.L (pmOf um) (Frame.enter P d (as ++ cap) .deferred) ({ fr with defers :=ds } :: cs) :=by
  cases um with
  |ret => exact ⟨rfl,rfl,_,_,rfl,hm⟩
  |pan l => obtain ⟨chain,hc,hcr⟩ :=hm;exact ⟨rfl,rfl,_,_,chain,rfl,hc,hcr⟩
 obtain ⟨g1,fr1,cs1,w1,k1,k2,k3,k4,k5,k6,k7,k8⟩ :=hcall g (as ++ cap) ({ fr with defers :=ds } :: cs) w hr.h h1 h2 hpm
 -- the caller's frame behind the call
 obtain ⟨m1,hcs1,hm1⟩ : ∃ m1,cs1 = { ({ fr with defers :=ds }:Frame) with mode :=m1 } :: cs ∧ match pm1 with | .pan l => ∃ chain,m1 = .panicking chain ∧ qce g1 w1 H1.L l chain | _ => m1 = .returning :=by
  cases um with
  |ret =>
   have hp:pm1 = .ret :=hpm1
   subst hp
   have k5:cs1 = _ :=k5
   exact ⟨fr.mode,k5,hm⟩
  |pan l =>
   obtain ⟨l1,hp⟩ :=hpm1
   subst hp
   obtain ⟨c0,rest,m,q1,q2⟩ :=k5
   injection q1 with q3 q4
   subst q3;subst q4
   obtain ⟨_,_,c1,rest1,chain,q5,q6,q7⟩ :=k6
   rw [q2] at q5
   injection q5 with q8 q9
   subst q8
   exact ⟨m,q2,chain,q6,q7⟩
 subst hcs1
 have hfr:∀ m:FrameMode,FrRel g1 B w1 { σ with df :=df,H :=H1 } { ({ fr with defers :=ds }:Frame) with mode :=m } cs :=fun m =>
  ⟨k1.rel,hr.tm.ext k1.ext k1.L,h3.ext k1.ext k1.L,by
   have :=hr.pm.ext k1.ext k1.L
   unfold qfr at *
   split at this <;> simp_all,hr.rd⟩
 have finish:∀ m:FrameMode,UmOk g1 w1 H1.L um' m → Steps P (lone fr1 ({ ({ fr with defers :=ds }:Frame) with mode :=m1 } :: cs) w1) (lone { ({ fr with defers :=ds }:Frame) with mode :=m } cs w1) →
   ∃ g' fr' cs' w',Out g B w σ.H g' w' H' ∧ Steps P (lone fr cs w) (lone fr' cs' w') ∧ SameFr fr fr' ∧ CsOk σ.pm cs cs' ∧ qfr g' w' H'.L pm' fr' cs' ∧ qk6 P g' w' H'.L e' fr' :=by
  intro m hum hs
  obtain ⟨g2,fr2,cs2,w2,q1,q2,q3,q4,q5,q6⟩ :=hrest g1 _ cs w1 (hfr m) hfn hum
  exact ⟨g2,fr2,cs2,w2,k1.trans q1,.head hst (k2.trans (hs.trans q2)),⟨q3.fn,q3.kind,q3.round⟩,q4,q5,q6⟩
 cases e with
 |ret v =>
  obtain ⟨k8,fn,u,k9,k10,_⟩ :=k8
  have hgo:fr1.going P w1 (.returned u) :=⟨k8,k7,fn,k9,k10⟩
  have hstep :=step_going_returned (c :={ ({ fr with defers :=ds }:Frame) with mode :=m1 }) (cs :=cs) k4 hgo
  refine finish (settle m1) ?_ (.one hstep)
  subst hum
  cases pm1 with
  |no =>
   have hm1:m1 = .returning :=hm1
   subst hm1;rfl
  |ret =>
   have hm1:m1 = .returning :=hm1
   subst hm1;rfl
  |pan l =>
   obtain ⟨chain,rfl,hcr⟩ :=hm1
   exact qqy hcr
 |panic l =>
  obtain ⟨chain,k8,k9,fn,k10⟩ :=k8
  have hgo:fr1.going P w1 (.panicked chain) :=⟨k8,k7,fn,k10⟩
  have hstep :=step_going_panicked (c :={ ({ fr with defers :=ds }:Frame) with mode :=m1 }) (cs :=cs) hgo
  refine finish (raised m1 chain) ?_ (.one hstep)
  subst hum
  cases pm1 with
  |no =>
   have hm1:m1 = .returning :=hm1
   subst hm1;exact ⟨chain,rfl,k9⟩
  |ret =>
   have hm1:m1 = .returning :=hm1
   subst hm1;exact ⟨chain,rfl,k9⟩
  |pan l' =>
   obtain ⟨chain',rfl,hcr⟩ :=hm1
   exact ⟨chain ++ chain',rfl,k9.append hcr⟩
theorem USem.mark {f:FuncId} {um:UMode} {o:Nat} {df:List ADf} (hdf:σ.df = .mark o :: df) (ho:σ.H.o o = .dfr false) {e':AEnd} {pm':APm} {H':AH}
  (hrest:USem P B f um { σ with df :=df,H :=σ.H.put o (.dfr true) 0 } e' pm' H'):USem P B f um σ e' pm' H' :=by
 intro g fr cs w hr hfn hm
 have hdr :=hr.df
 rw [hdf] at hdr
 obtain ⟨ds,e1,h1,h2⟩ :=hdr
 have hro :=hr.h.rel o
 rw [ho] at hro
 obtain ⟨m1,m2⟩ :=hro
 have hlt:g.ob o < w.heap.size :=by
  have :=(hr.h.ge o h1).2
  rw [ho] at this
  exact this
 have hout:Out g B w σ.H g { w with heap :=w.heap.setIfInBounds (g.ob o) (.deferred none) } (σ.H.put o (.dfr true) 0) :=by
  refine hr.h.setOb h1 (by rw [ho];rfl) m2 (by simp) rfl 0 (by simp) (fun k hk => ?_) rfl rfl rfl ?_ trivial trivial
  ·show (w.heap.setIfInBounds (g.ob o) _)[k]? = _
   rw [Array.getElem?_setIfInBounds_ne (by omega)]
  ·intro _
   refine ⟨?_,m2⟩
   show (w.heap.setIfInBounds (g.ob o) _)[g.ob o]? = _
   rw [Array.getElem?_setIfInBounds_self_of_lt hlt]
   rfl
 have hr':FrRel g B { w with heap :=w.heap.setIfInBounds (g.ob o) (.deferred none) } { σ with df :=df,H :=σ.H.put o (.dfr true) 0 } { fr with defers :=ds } cs :=
  ⟨hout.rel,hr.tm.ext hout.ext hout.L,h2.ext hout.ext hout.L,by
   have :=hr.pm.ext hout.ext hout.L
   unfold qfr at *
   split at this <;> simp_all,hr.rd⟩
 obtain ⟨g2,fr2,cs2,w2,q1,q2,q3,q4,q5,q6⟩ :=hrest g { fr with defers :=ds } cs _ hr' hfn (hm.ext hout.ext hout.L)
 refine ⟨g2,fr2,cs2,w2,hout.trans q1,(qcj ?_).trans q2,⟨q3.fn,q3.kind,q3.round⟩,q4,q5,q6⟩
 have htake:(Instr.takeDeferred (g.ob o)).run P w = .ok [] { w with heap :=w.heap.setIfInBounds (g.ob o) (.deferred none) } :=by
  simp [Instr.takeDeferred,getObj,setObj,Sem.run,m1]
 have hmode:fr.mode ≠ .run :=by
  cases um with
  |ret => have:fr.mode = .returning :=hm;rw [this];simp
  |pan l => obtain ⟨chain,hc,_⟩ :=hm;rw [hc];simp
 cases hmd:fr.mode with
 |run => exact absurd hmd hmode
 |returning => simp [stepG,unwind,hmd,e1,htake]
 |panicking chain => simp [stepG,unwind,hmd,e1,htake]
/-! ### Bodies -/
def qpb (args:List AV) (n:Nat) (tm:Tr AV):Prop :=∀ j,tm.get j = if j < args.length then args[j]? else if j < n then some .unk else none
theorem qpb.rel {g:Gh} {w:World} {L:Nat → Prop} {args:List AV} {n:Nat} {tm:Tr AV} (h:qpb args n tm) {vs:Array Value} (hv:VRels g w args vs.toList) (hl:Lives L args) (hn:args.length ≤ n) :
  FRel g w L tm (vs ++ Array.replicate (n - vs.size) undef) :=by
 have hlen :=hv.length
 have hvs:vs.size = args.length :=by rw [← hlen];simp
 constructor
 ·intro t a ha
  rw [h] at ha
  split at ha
  ·rename_i ht
   obtain ⟨v,h1,h2⟩ :=hv.get _ _ ha
   refine ⟨by simp;omega,?_⟩
   rw [Array.getD_eq_getD_getElem?,Array.getElem?_append_left (by omega)]
   rw [Array.getElem?_toList] at h1
   rw [h1]
   exact h2
  ·split at ha
   ·cases ha
    refine ⟨by simp;omega,trivial⟩
   ·cases ha
 ·intro t a ha
  rw [h] at ha
  split at ha
  ·exact hl.mem _ _ (List.mem_of_getElem? ha)
  ·split at ha
   ·cases ha;trivial
   ·cases ha
theorem FSem.body (hF:FOK P F) {f:FuncId} {fn:Func} (hf:F.get f = some fn) {c:Code} (hb:fn.body = some c) {κ:CallKind} {args:List AV} {pm:APm} {H:AH} {tm:Tr AV} (hn:args.length ≤ fn.ntmps) (htm:qpb args fn.ntmps tm)
  {ex:AEx} {um:UMode} (hex:match ex with | .normal => um = .ret | .ret => um = .ret | .panic l => um = .pan l | .exit _ => False)
  (hbody:Sem P B c { tm :=tm,df :=[],pm :=pm,rd :=false,H :=H } ex σ1) (hpmk:(∀ l,pm ≠ .pan l) → ∀ l,σ1.pm ≠ .pan l) {e:AEnd} {pm':APm} {H':AH} (hu:USem P B f um σ1 e pm' H') (hpmk':(∀ l,σ1.pm ≠ .pan l) → ∀ l,pm' ≠ .pan l) :
  FSem P B f κ args pm H e pm' H' :=by
 intro g vs cs w hr hv hl hpm
 have _ :=hpmk'
 obtain ⟨hf1,_⟩ :=hF f fn hf
 have hlen :=hv.length
 have henter:Frame.enter P f vs κ = { fn :=f,tmps :=vs ++ Array.replicate (fn.ntmps - vs.size) undef,todo :=[.code c],defers :=[],mode :=.run,kind :=κ } :=by
  simp [Frame.enter,hf1,hb]
 rw [henter] at hpm ⊢
 generalize hfr:({ fn :=f,tmps :=vs ++ Array.replicate (fn.ntmps - vs.size) undef,todo :=[.code c],defers :=[],mode :=.run,kind :=κ }:Frame) = fr at hpm ⊢
 have hrel:FrRel g B w { tm :=tm,df :=[],pm :=pm,rd :=false,H :=H } fr cs :=by
  refine ⟨hr,?_,?_,hpm,fun _ => ?_⟩
  ·rw [← hfr];exact htm.rel hv hl hn
  ·rw [← hfr];rfl
  ·rw [← hfr]
 have hmode:fr.mode = .run :=by rw [← hfr]
 have htodo:fr.todo = [.code c] ++ [] :=by rw [← hfr];rfl
 have hround:fr.roundOf = none :=by rw [← hfr]
 have hfn:fr.fn = f :=by rw [← hfr]
 have hkind:fr.kind = κ :=by rw [← hfr]
 obtain ⟨k',hk'⟩ : ∃ k',tgt ex [] = some k' :=by
  cases ex <;> first
   |exact ⟨_,rfl⟩
   |exact hex.elim
 obtain ⟨g1,fr1,cs1,w1,h1,h2,h3,h4,h5,h6,h7⟩ :=hbody g fr cs w [] hrel hmode htodo (fun _ => hround) k' hk'
 have go:∀ fr2:Frame,SameFr fr fr2 → FrRel g1 B w1 σ1 fr2 cs1 → UmOk g1 w1 σ1.H.L um fr2.mode → Steps P (lone fr1 cs1 w1) (lone fr2 cs1 w1) →
   ∃ g' fr' cs' w',Out g B w H g' w' H' ∧ Steps P (lone fr cs w) (lone fr' cs' w') ∧ fr'.fn = f ∧ fr'.kind = κ ∧ CsOk pm cs cs' ∧ qfr g' w' H'.L pm' fr' cs' ∧ qk6 P g' w' H'.L e fr' :=by
  intro fr2 hsame hrel2 hum hs
  obtain ⟨g3,fr3,cs3,w3,q1,q2,q3,q4,q5,q6⟩ :=hu g1 fr2 cs1 w1 hrel2 (hsame.fn.trans hfn) hum
  exact ⟨g3,fr3,cs3,w3,h2.trans q1,h7.trans (hs.trans q2),q3.fn.trans (hsame.fn.trans hfn),q3.kind.trans (hsame.kind.trans hkind),h4.trans q4 hpmk,q5,q6⟩
 cases ex with
 |normal =>
  subst hex
  obtain ⟨h8,h9⟩ :=h6
  simp only [tgt,Option.some.injEq] at hk'
  subst hk'
  refine go { fr1 with mode :=.returning } ⟨h3.fn,h3.kind,h3.round⟩ (h1.mode _) rfl (qcj ?_)
  have hro:fr1.roundOf = none :=h3.round.trans hround
  simp [stepG,stepG.exec,h8,h9,hro]
 |ret =>
  subst hex
  exact go fr1 h3 h1 h6 (Steps.refl _ _)
 |panic l =>
  subst hex
  exact go fr1 h3 h1 h6 (Steps.refl _ _)
 |exit id => exact hex.elim
theorem CSem.of_F {f:FuncId} {args:List AV} {H H':AH} {e:AEnd} {pm':APm} (h:FSem P B f .normal args .no H e pm' H'):CSem P B f args H e H' :=by
 intro g vs cs w hr hv hl
 obtain ⟨g',fr',cs',w',h1,h2,h3,h4,h5,h6,h7,h8⟩ :=h g vs cs w hr hv hl trivial
 have h5:cs' = cs :=h5
 subst h5
 refine ⟨g',fr',w',h1,h2,h3,?_⟩
 cases e with
 |ret v =>
  obtain ⟨k1,fn,u,k2,k3,k4,k5⟩ :=h8
  exact ⟨u,⟨k1,h7,h4,fn,k2,k3⟩,k4,k5⟩
 |panic l =>
  obtain ⟨chain,k1,k2,fn,k3⟩ :=h8
  exact ⟨chain,⟨k1,h7,fn,k3⟩,k2⟩
end
end
end Go.Abs

/-! recover, and loops over functions. -/
namespace Go.Abs
open Go
noncomputable section
mutual
theorem Live.bd_le {L:Nat → Prop} {n:Nat} (hL:∀ i,L i → i < n):∀ (a:AV),Live L a → bd a ≤ n
 | .unk,_ => Nat.zero_le _
 | .int _ _,_ => Nat.zero_le _
 | .bool _,_ => Nat.zero_le _
 | .str _,_ => Nat.zero_le _
 | .nilp,_ => Nat.zero_le _
 | .ptr _ _,h => hL _ h
 | .lptr xs _,h => Lives.bd_le hL xs h
 | .gp _ _,_ => Nat.zero_le _
 | .nils,_ => Nat.zero_le _
 | .slc _ _ _ _,h => hL _ h
 | .lst xs _ .no,h => Lives.bd_le hL xs h.1
 | .lst xs _ .full,h => Lives.bd_le hL xs h.1
 | .lst xs _ (.ch c),h => Nat.max_le.2 ⟨hL _ (h.2 c rfl),Lives.bd_le hL xs h.1⟩
 | .nilm,_ => Nat.zero_le _
 | .map _,h => hL _ h
 | .nilf,_ => Nat.zero_le _
 | .func _ f c,h => Nat.max_le.2 ⟨Lives.bd_le hL f h.1,Lives.bd_le hL c h.2⟩
 | .yld _,h => hL _ h
 | .nili,_ => Nat.zero_le _
 | .iface _ a,h => Live.bd_le hL a h
 | .agg cs,h => Lives.bd_le hL cs h
 | .tup cs,h => Lives.bd_le hL cs h
theorem Lives.bd_le {L:Nat → Prop} {n:Nat} (hL:∀ i,L i → i < n):∀ (xs:List AV),Lives L xs → bdl xs ≤ n
 | [],_ => Nat.zero_le _
 |x :: xs,h => Nat.max_le.2 ⟨Live.bd_le hL x h.1,Lives.bd_le hL xs h.2⟩
end
section
variable {P:Program} {B:Nat} {σ σ1 σ2 σ':St} {T:Tr TypeInfo} {F:Tr Func} {X:XT}
theorem OpS.recover_pan (hT:TOK P T) (hF:FOK P F) (hX:XOK P X) {ops:Array Oper} {i s:Nat} {o:Oper} (ho:ops[i]? = some o) (hg:qcv ops σ.tm o = some true) (hsl:σ.H.o s = .hole) {R:List Nat} {W:WL}
  (hev:EvF s (pOp P T F X (aev σ.tm) o) σ.H.o .recover R W) (hrd:σ.rd = false) {v:AV} {l:List (AV × Bool)} (hpm:σ.pm = .pan ((v,false) :: l)) {tm':Tr AV} (hs:SetD σ.tm o.dst v tm') :
  OpS P B ops i σ .normal { σ with tm :=tm',pm :=.pan ((v,true) :: l) } :=by
 intro g fr cs w rest k hr hm ht
 obtain ⟨rfl,h1⟩ :=qgs (qkm hT hF hr hsl) hX hev
 have hro :=hr.rd hrd
 have hst :=qdm (P :=P) (cs :=cs) (w :=w) hm ht ho (qdr hr.tm hg) (.inl hro)
 have hp :=hr.pm
 rw [hpm] at hp
 obtain ⟨p1,p2,c0,rest0,chain,p3,p4,p5⟩ :=hp
 obtain ⟨e,es',p6,p7,p8,p9,p10,p11⟩ :=p5
 obtain ⟨ev,er,eg⟩ :=e
 simp only at p7 p9 p10
 subst p9 p10 p6 p3
 have htry:tryRecover fr (c0 :: rest0) = some (ev,{ c0 with mode :=.panicking ({ v :=ev,recovered :=true } :: es') } :: rest0) :=by
  simp [tryRecover,p1,p4]
 refine ⟨g,fr.finish ev,{ c0 with mode :=.panicking ({ v :=ev,recovered :=true } :: es') } :: rest0,w,?_,Out.refl hr.h,?_,?_,fun h => absurd hpm (h _),?_,qcj ?_⟩
 ·have h0:FrRel g B w { σ with pm :=.no } fr (c0 :: rest0) :=⟨hr.h,hr.tm,hr.df,trivial,hr.rd⟩
  have h1 :=h0.finish ht ho p7 p8 hs
  refine ⟨h1.h,h1.tm,h1.df,?_,h1.rd⟩
  rw [qca ht ho]
  refine ⟨p1,p2,_,_,_,rfl,rfl,?_⟩
  exact ⟨_,_,rfl,p7,p8,rfl,rfl,p11⟩
 ·rw [qca ht ho];exact ⟨rfl,rfl,rfl⟩
 ·rw [hpm];exact ⟨c0,rest0,_,rfl,rfl⟩
 ·rw [qca ht ho];exact ⟨hm,rfl⟩
 ·rw [hst];simp [stepG.apply,h1,hro,htry]
theorem OpS.recover_nil (hT:TOK P T) (hF:FOK P F) (hX:XOK P X) {ops:Array Oper} {i s:Nat} {o:Oper} (ho:ops[i]? = some o) (hg:qcv ops σ.tm o = some true) (hsl:σ.H.o s = .hole) {R:List Nat} {W:WL}
  (hev:EvF s (pOp P T F X (aev σ.tm) o) σ.H.o .recover R W) (hrd:σ.rd = false) (hpm:σ.pm = .ret) {tm':Tr AV} (hs:SetD σ.tm o.dst .nili tm') :
  OpS P B ops i σ .normal { σ with tm :=tm' } :=by
 intro g fr cs w rest k hr hm ht
 obtain ⟨rfl,h1⟩ :=qgs (qkm hT hF hr hsl) hX hev
 have hro :=hr.rd hrd
 have hst :=qdm (P :=P) (cs :=cs) (w :=w) hm ht ho (qdr hr.tm hg) (.inl hro)
 have hp :=hr.pm
 rw [hpm] at hp
 obtain ⟨p1,p2,c0,rest0,p3,p4⟩ :=hp
 have htry:tryRecover fr cs = Option.none :=by
  simp [tryRecover,p1,p3,p4]
 have hu:VRel g w .nili .nilIface :=rfl
 refine ⟨g,fr.finish .nilIface,cs,w,hr.finish ht ho hu trivial hs,Out.refl hr.h,?_,CsOk.refl _ _ _ hr.pm,fun h => h,?_,qcj ?_⟩
 ·rw [qca ht ho];exact ⟨rfl,rfl,rfl⟩
 ·rw [qca ht ho];exact ⟨hm,rfl⟩
 ·rw [hst];simp [stepG.apply,h1,hro,htry]
def qjx (tm:Tr AV):List (Nat × AV) → Tr AV → Prop
 | [],tm' => tm' = tm
 |(p,a) :: r,tm' => ∃ t1,SetD tm (some p) a t1 ∧ qjx t1 r tm'
theorem FRel.setAll {g:Gh} {w:World} {L:Nat → Prop}:∀ (ps:List Nat) (args:List AV) (vs:List Value) {tm tm':Tr AV} {arr:Array Value},VRels g w args vs → Lives L args → qjx tm (ps.zip args) tm' → FRel g w L tm arr →
  FRel g w L tm' ((ps.zip vs).foldl (fun tmps (t,a) => tmps.setIfInBounds t a) arr)
 | [],_,_,_,_,_,_,_,h,hf => by
  simp only [List.zip_nil_left,qjx] at h
  subst h
  simpa using hf
 | _ :: _,[],_,_,_,_,hv,_,h,hf => by
  simp only [VRels] at hv
  simp only [List.zip_nil_right,qjx] at h
  subst h;subst hv
  simpa using hf
 |p :: ps,a :: args,vs,_,_,_,hv,hl,h,hf => by
  obtain ⟨u,us,e,h1,h2⟩ :=hv
  subst e
  obtain ⟨t1,h3,h4⟩ :=h
  have :=FRel.setAll ps args us h2 hl.2 h4 (hf.set h3.1 h3.2 h1 hl.1)
  simpa using this
theorem HRel.setLoop {g:Gh} {w:World} {H:AH} (h:HRel g B w H) {l:Nat} {st:LoopState} {fn:FuncId} {tm:Tr AV} {nt:Nat} {params:List Tmp} {assign body:Code} {dfr:Nat}
  (hl:H.o l = .loop st fn tm nt params assign body dfr) {lp:Loop} (hlp:w.heap[g.ob l]? = some (.loop lp)) (st':LoopState) {lp':Loop} (he:lp' = { lp with state :=st',pending :=Option.none }) :
  Out g B w H g { w with heap :=w.heap.setIfInBounds (g.ob l) (.loop lp') } (H.put l (.loop st' fn tm nt params assign body dfr) 0) :=by
 have hL:H.L l :=by unfold AH.L;rw [hl];simp
 have hr :=h.rel l
 rw [hl] at hr
 obtain ⟨lp0,q1,q2,q3,q4,q6,q7,q8,q9,q10⟩ :=hr
 rw [hlp] at q1
 injection q1 with q1
 injection q1 with q1
 subst q1
 have hlt:g.ob l < w.heap.size :=by
  have :=(h.ge l hL).2
  rw [hl] at this
  exact this
 have hlv :=h.live l
 rw [hl] at hlv
 have hk :=h.kp l
 rw [hl] at hk
 refine h.setOb hL (by rw [hl];rfl) q2 (by simp) rfl 0 (by simp) (fun k hk => ?_) rfl rfl rfl ?_ ?_ ?_
 ·show (w.heap.setIfInBounds (g.ob l) _)[k]? = _
  rw [Array.getElem?_setIfInBounds_ne (by omega)]
 ·intro hx
  refine ⟨lp',?_,q2,by rw [he],by rw [he],?_,by rw [he];exact q7,by rw [he];exact q8,by rw [he];exact q9,by rw [he];exact q10⟩
  ·show (w.heap.setIfInBounds (g.ob l) _)[g.ob l]? = _
   rw [Array.getElem?_setIfInBounds_self_of_lt hlt]
  ·subst he
   exact q6.ext hx hlv.1
 ·exact ⟨fun j a hj => (hlv.1 j a hj).mono fun i hi => AH.put_L H l _ (by simp) hi,AH.put_L H l _ (by simp) hlv.2⟩
 ·have:(H.put l (.loop st' fn tm nt params assign body dfr) 0).keep = H.keep :=by simp [AH.put]
  rw [this]
  exact hk
theorem OpS.yld (hT:TOK P T) (hF:FOK P F) (hX:XOK P X) {ops:Array Oper} {i s:Nat} {o:Oper} (ho:ops[i]? = some o) (hg:qcv ops σ.tm o = some true) (hsl:σ.H.o s = .hole) {l:Nat} {args:List AV} {R:List Nat} {W:WL}
  (hev:EvF s (pOp P T F X (aev σ.tm) o) σ.H.o (.yld l args) R W) {fn:FuncId} {tm:Tr AV} {nt:Nat} {params:List Tmp} {assign body:Code} {dfr:Nat}
  (hl:σ.H.o l = .loop .ready fn tm nt params assign body dfr) {tm0:Tr AV} (hset:qjx tm (params.zip args) tm0)
  (hassign:Sem P B assign { tm :=tm0,df :=[],pm :=.no,rd :=true,H :=σ.H } .normal σ1)
  {fn1:FuncId} {tm1:Tr AV} {nt1:Nat} {params1:List Tmp} {assign1 body1:Code} {dfr1:Nat} (h1:σ1.H.o l = .loop .ready fn1 tm1 nt1 params1 assign1 body1 dfr1)
  (hbody:Sem P B body { σ1 with H :=σ1.H.put l (.loop .busy fn1 tm1 nt1 params1 assign1 body1 dfr1) 0 } .normal σ2)
  {st2:LoopState} {fn2:FuncId} {tm2:Tr AV} {nt2:Nat} {params2:List Tmp} {assign2 body2:Code} {dfr2:Nat} (h2:σ2.H.o l = .loop st2 fn2 tm2 nt2 params2 assign2 body2 dfr2)
  {tm':Tr AV} (hs:SetD σ.tm o.dst (.bool true) tm') :
  OpS P B ops i σ .normal { σ with tm :=tm',H :=σ2.H.put l (.loop .ready fn2 tm2 nt2 params2 assign2 body2 dfr2) 0 } :=by
 intro g fr cs w rest k hr hm ht
 obtain ⟨rfl,hL,vs,⟨st',fn',tmx,nt',params',assign',body',dfr',e0,hsz,lp,hlp,hres⟩,hv,hlv⟩ :=qgs (qkm hT hF hr hsl) hX hev
 have hst :=qdm (P :=P) (cs :=cs) (w :=w) hm ht ho (qdr hr.tm hg) (.inr (qeh hev (by intro f args e;cases e)))
 rw [hl] at e0
 cases e0
 have hro :=hr.h.rel l
 rw [hl] at hro
 obtain ⟨lp0,q1,q2,q3,q4,q6,q7,q8,q9,q10⟩ :=hro
 rw [hlp] at q1
 injection q1 with q1
 injection q1 with q1
 subst q1
 have hlvl :=hr.h.live l
 rw [hl] at hlvl
 -- the round's frame
 have hfold:(lp.params.zip vs).foldl (fun tmps (t,a) => tmps.setIfInBounds t a) lp.tmps = (params.zip vs.toList).foldl (fun tmps (t,a) => tmps.setIfInBounds t a) lp.tmps :=by
  rw [← Array.foldl_toList,Array.toList_zip,q7]
 have hf0:FRel g w σ.H.L tm0 ((lp.params.zip vs).foldl (fun tmps (t,a) => tmps.setIfInBounds t a) lp.tmps) :=by
  rw [hfold]
  exact FRel.setAll params args vs.toList hv hlv hset ⟨q6,hlvl.1⟩
 generalize hr0:Frame.round (g.ob l) lp.fn ((lp.params.zip vs).foldl (fun tmps (t,a) => tmps.setIfInBounds t a) lp.tmps) lp.assign lp.body .normal = r0
 have hrel0:FrRel g B w { tm :=tm0,df :=[],pm :=.no,rd :=true,H :=σ.H } r0 (fr :: cs) :=by
  rw [← hr0]
  exact ⟨hr.h,hf0,rfl,trivial,fun e => by cases e⟩
 have hm0:r0.mode = .run :=by rw [← hr0];rfl
 have ht0:r0.todo = [.code assign] ++ [.beginRound,.code body] :=by rw [← hr0,← q8,← q9];rfl
 have hro0:r0.roundOf = some (g.ob l) :=by rw [← hr0];rfl
 have hk0:r0.kind = .normal :=by rw [← hr0];rfl
 obtain ⟨g1,r1,cs1,w1,a1,a2,a3,a4,a5,a6,a7⟩ :=hassign g r0 (fr :: cs) w _ hrel0 hm0 ht0 (fun e => by cases e) _ rfl
 have a4:cs1 = fr :: cs :=a4
 subst a4
 have ho1:g1.ob l = g.ob l :=a2.ext.ob l hL
 -- the round begins
 have hro1 :=a1.h.rel l
 rw [h1] at hro1
 obtain ⟨lp1,b1,b2,b3,b4,b6,b7,b8,b9,b10⟩ :=hro1
 have hbeg:(Instr.beginRound (g.ob l)).run P w1 = .ok () { w1 with heap :=w1.heap.setIfInBounds (g1.ob l) (.loop { lp1 with state :=.busy,pending :=Option.none }) } :=by
  rw [← ho1]
  obtain ⟨ls,lpe,lf,lt,lps,la,lb,ld⟩ :=lp1
  simp only at b3 b4
  subst b3 b4
  simp [Instr.beginRound,Instr.getLoop,getObj,setObj,Go.Sem.run,b1]
 have ob :=a1.h.setLoop h1 b1 .busy rfl
 generalize hw2:({ w1 with heap :=w1.heap.setIfInBounds (g1.ob l) (.loop { lp1 with state :=.busy,pending :=Option.none }) }:World) = w2 at hbeg ob
 have ro1:r1.roundOf = some (g.ob l) :=by rw [a3.round];exact hro0
 have st1:Steps P (lone r1 (fr :: cs) w1) (lone { r1 with todo :=[.code body] } (fr :: cs) w2) :=qcj (by
  simp [stepG,stepG.exec,a6.1,a6.2,stepG.apply,ro1,hbeg,Frame.finish])
 have hrel1:FrRel g1 B w2 { σ1 with H :=σ1.H.put l (.loop .busy fn1 tm1 nt1 params1 assign1 body1 dfr1) 0 } { r1 with todo :=[.code body] } (fr :: cs) :=(a1.out ob).todo _
 have hmm:({ r1 with todo :=[.code body] }:Frame).mode = .run :=a6.1
 obtain ⟨g2,r2,cs2,w3,c1,c2,c3,c4,c5,c6,c7⟩ :=hbody g1 { r1 with todo :=[.code body] } (fr :: cs) w2 [] hrel1 hmm rfl (fun e => by cases e) _ rfl
 have c4' :=CsOk.trans (pm :=.no) (b :=fr :: cs) rfl c4 (fun _ => a5 (by intro l;simp))
 have c4':cs2 = fr :: cs :=c4'
 subst c4'
 have hL1:σ1.H.L l :=a2.L l hL
 have ho2:g2.ob l = g.ob l :=by rw [c2.ext.ob l (AH.put_L σ1.H l _ (by simp) hL1),ho1]
 have hro2 :=c1.h.rel l
 rw [h2] at hro2
 obtain ⟨lp2,d1,d2,d3,d4,d6,d7,d8,d9,d10⟩ :=hro2
 have oe :=c1.h.setLoop h2 d1 .ready rfl
 have hend:(Instr.endRound (g.ob l) Option.none).run P w3 = .ok (.bool true) { w3 with heap :=w3.heap.setIfInBounds (g2.ob l) (.loop { lp2 with state :=.ready,pending :=Option.none }) } :=by
  rw [← ho2]
  simp [Instr.endRound,Instr.getLoop,getObj,setObj,Go.Sem.run,d1]
 generalize hw4:({ w3 with heap :=w3.heap.setIfInBounds (g2.ob l) (.loop { lp2 with state :=.ready,pending :=Option.none }) }:World) = w4 at hend oe
 have ro2:r2.roundOf = some (g.ob l) :=by rw [c3.round];exact ro1
 have k2:r2.kind = .normal :=by rw [c3.kind];exact a3.kind.trans hk0
 have hall:Out g B w σ.H g2 w4 (σ2.H.put l (.loop .ready fn2 tm2 nt2 params2 assign2 body2 dfr2) 0) :=a2.trans (ob.trans (c2.trans oe))
 have hr' :=hr.out hall
 have hu:VRel g2 w4 (.bool true) (.bool true) :=rfl
 refine ⟨g2,fr.finish (.bool true),cs,w4,hr'.finish ht ho hu trivial hs,hall,?_,CsOk.refl _ _ _ hr.pm,fun h => h,?_,?_⟩
 ·rw [qca ht ho];exact ⟨rfl,rfl,rfl⟩
 ·rw [qca ht ho];exact ⟨hm,rfl⟩
 ·refine Steps.trans (qcj (fr' :=r0) (cs' :=fr :: cs) (w' :=w) ?_) (Steps.trans a7 (st1.trans (c7.trans (qcj ?_))))
  ·rw [hst,← hr0];simp [stepG.apply,hres]
  ·simp [stepG,stepG.exec,c6.1,c6.2,ro2,hend,doReturn,k2]
theorem Sem.rangeFunc (hF:FOK P F) {f:Operand} {params:Array Tmp} {assign body:Code} {fid:FuncId} {first cap:List AV} (hv:aev σ.tm f = .func (.func fid) first cap) (hrd:σ.rd = false) {dfn:Func} {c:Code} (hd:F.get fid = some dfn) (hb:dfn.body = some c)
  {fnid:FuncId} {nt:Nat} {v:AV} {H1:AH}
  (hcall:CSem P B fid (first ++ (.yld (σ.H.n + 1) :: cap)) ((σ.H.put σ.H.n (.dfr false) 0).put (σ.H.n + 1) (.loop .ready fnid σ.tm nt params.toList assign body σ.H.n) 0) (.ret v) H1)
  {st2:LoopState} {fn2:FuncId} {tm2:Tr AV} {nt2:Nat} {params2:List Tmp} {assign2 body2:Code} {dfr2:Nat} (h2:H1.o (σ.H.n + 1) = .loop st2 fn2 tm2 nt2 params2 assign2 body2 dfr2) (hst2:st2 = .ready) :
  Sem P B (.rangeFunc f params assign body) σ .normal { σ with df :=.mark σ.H.n :: σ.df,H :=H1.put (σ.H.n + 1) (.loop .exhausted fn2 tm2 nt2 params2 assign2 body2 dfr2) 0 } :=by
 subst hst2
 intro g fr cs w k hr hm ht hro k' hk
 simp only [tgt,Option.some.injEq] at hk
 subst hk
 have hround :=hr.rd hrd
 have hLn:∀ i,σ.H.L i → i < σ.H.n :=fun i hi => Nat.lt_of_not_le fun h => hi (hr.h.wf i h)
 -- the block of deferred calls
 have hs1:σ.H.o σ.H.n = .hole :=hr.h.wf _ (Nat.le_refl _)
 obtain ⟨g1,o1,e1⟩ :=hr.h.newOb hs1 (x :=.dfr false) (by simp) (fun _ _ => rfl) (.deferred (some [])) 0
  (fun g' e1 e2 _ _ => ⟨by rw [e1];exact qcg _ _,by rw [e1];exact e2⟩) trivial trivial
 generalize hw1:w.alloc (.deferred (some [])) = w1 at o1
 generalize hH1:σ.H.put σ.H.n (.dfr false) 0 = Ha at o1 hcall
 have hHan:Ha.n = σ.H.n + 1 :=by rw [← hH1];simp [AH.put]
 have hHad:Ha.L σ.H.n :=by rw [← hH1];simp [AH.put,AH.L,upd]
 -- the loop's object
 have hs2:Ha.o (σ.H.n + 1) = .hole :=o1.rel.wf _ (by omega)
 have htm1 :=hr.tm.ext o1.ext o1.L
 have hLa:∀ i,Ha.L i → i < σ.H.n + 1 :=fun i hi => Nat.lt_of_not_le fun h => hi (o1.rel.wf i (by omega))
 obtain ⟨g2,o2,e2⟩ :=o1.rel.newOb hs2 (x :=.loop .ready fnid σ.tm nt params.toList assign body σ.H.n) (by simp) (fun _ _ => rfl)
  (.loop { state :=.ready,pending :=Option.none,fn :=fr.fn,tmps :=fr.tmps,params :=params,assign :=assign,body :=body,defers :=g1.ob σ.H.n }) 0
  (fun g' e1 e2 e3 hx => ⟨_,by rw [e1];exact qcg _ _,by rw [e1];exact e2,rfl,rfl,fun j a hj => ⟨(htm1.rel j a hj).1,(htm1.rel j a hj).2.ext hx _ _ (htm1.live j a hj)⟩,rfl,rfl,rfl,(e3 _ hHad).symm⟩)
  ⟨fun j a hj => (htm1.live j a hj).mono fun i hi => AH.put_L Ha _ _ (by simp) hi,AH.put_L Ha _ _ (by simp) hHad⟩
  ⟨fun j a hj => Nat.le_trans (Live.bd_le hLa a (htm1.live j a hj)) (by omega),by omega⟩
 generalize hlpe:({ state :=.ready,pending :=Option.none,fn :=fr.fn,tmps :=fr.tmps,params :=params,assign :=assign,body :=body,defers :=g1.ob σ.H.n }:Loop) = lpe at o2
 generalize hw2:w1.alloc (.loop lpe) = w2 at o2
 generalize hH2:Ha.put (σ.H.n + 1) (.loop .ready fnid σ.tm nt params.toList assign body σ.H.n) 0 = Hb at o2 hcall
 have hHbL:Hb.L (σ.H.n + 1) :=by rw [← hH2];simp [AH.put,AH.L,upd]
 have henter:(Instr.enterLoop fr.fn fr.tmps params assign body Option.none).run P w = .ok (g2.ob (σ.H.n + 1),[{ target :=.collected (g1.ob σ.H.n),args :=#[] }]) w2 :=by
  rw [e2,← hw2,← hlpe,e1,← hw1]
  simp only [Instr.enterLoop,Go.Sem.run_bind,Result.andThen_ok,Go.Sem.run_pure,run_newObj]
  rfl
 generalize hy:(Value.func (.yield (g2.ob (σ.H.n + 1))) #[] #[]) = y
 have hyv:VRel g2 w2 (.yld (σ.H.n + 1)) y :=hy.symm
 have hround2:({ fr with todo :=.inRangeFunc (g2.ob (σ.H.n + 1)) :: k,defers :={ target :=.collected (g1.ob σ.H.n),args :=#[] } :: fr.defers }:Frame).roundOf = Option.none :=hround
 -- the call
 have hf :=hr.tm.ev (a :={ tmps :=fr.tmps,defers :=fr.defers }) hr.h.gl f
 rw [hv] at hf
 have hlf :=hr.tm.evl (x :=f)
 rw [hv] at hlf
 have o12 :=o1.trans o2
 obtain ⟨vf,vc,q1,q2,q3⟩ :=hf.ext o12.ext _ _ hlf
 have hlf' :=hlf.mono o12.L
 have hall:VRels g2 w2 (first ++ (.yld (σ.H.n + 1) :: cap)) (vf.push y ++ vc).toList :=by
  rw [Array.toList_append,Array.toList_push,List.append_assoc]
  exact q2.append ⟨_,_,rfl,hyv,q3⟩
 have hlall:Lives Hb.L (first ++ (.yld (σ.H.n + 1) :: cap)) :=Lives.append hlf'.1 ⟨hHbL,hlf'.2⟩
 have hev:fr.eval f = .func (.func fid) vf vc :=by rw [← q1];cases f <;> rfl
 generalize hfr2:({ fr with todo :=.inRangeFunc (g2.ob (σ.H.n + 1)) :: k,defers :={ target :=.collected (g1.ob σ.H.n),args :=#[] } :: fr.defers }:Frame) = fr2 at hround2
 have hr2:FrRel g2 B w2 { σ with df :=.mark σ.H.n :: σ.df,H :=Hb } fr2 cs :=by
  have h0 :=hr.out o12
  rw [← hfr2]
  refine ⟨h0.h,h0.tm,⟨_,?_,o2.L _ hHad,h0.df⟩,?_,h0.rd⟩
  ·rw [o2.ext.ob _ hHad]
  ·have :=h0.pm
   unfold qfr at *
   split at this <;> simp_all
 have hm2:fr2.mode = .run :=by rw [← hfr2];exact hm
 have ht2:fr2.todo = .inRangeFunc (g2.ob (σ.H.n + 1)) :: k :=by rw [← hfr2]
 obtain ⟨g3,fr3,w3,k1,k2,k3,u,k4,k5,k6⟩ :=hcall g2 _ (fr2 :: cs) w2 o12.rel hall hlall
 have hr3 :=hr2.out k1
 have hob3:g3.ob (σ.H.n + 1) = g2.ob (σ.H.n + 1) :=k1.ext.ob _ hHbL
 have hro3 :=k1.rel.rel (σ.H.n + 1)
 rw [h2] at hro3
 obtain ⟨lp2,d1,d2,d3,d4,d6,d7,d8,d9,d10⟩ :=hro3
 have oe :=k1.rel.setLoop h2 d1 .exhausted rfl
 have hend:(Instr.endLoop (g2.ob (σ.H.n + 1))).run P w3 = .ok Option.none { w3 with heap :=w3.heap.setIfInBounds (g3.ob (σ.H.n + 1)) (.loop { lp2 with state :=.exhausted,pending :=Option.none }) } :=by
  rw [← hob3]
  obtain ⟨ls,lpe,lf,lt,lps,la,lb,ld⟩ :=lp2
  simp only at d3 d4
  subst d3 d4
  simp [Instr.endLoop,Instr.getLoop,getObj,setObj,Go.Sem.run,d1]
 generalize hw4:({ w3 with heap :=w3.heap.setIfInBounds (g3.ob (σ.H.n + 1)) (.loop { lp2 with state :=.exhausted,pending :=Option.none }) }:World) = w4 at hend oe
 have hr4 :=hr3.out oe
 refine ⟨g3,{ fr2 with todo :=k },cs,w4,hr4.todo _,o12.trans (k1.trans oe),?_,CsOk.refl _ _ _ hr.pm,fun h => h,⟨hm2,rfl⟩,?_⟩
 ·rw [← hfr2];exact ⟨rfl,rfl,rfl⟩
 ·refine Steps.trans (qcj (fr' :=Frame.enter P fid (vf.push y ++ vc) .normal) (cs' :=fr2 :: cs) (w' :=w2) ?_) (Steps.trans k2 (Steps.trans (.one (step_leave_returned k4)) (qcj ?_)))
  ·have hce :=qgg hF hd hb (vf.push y ++ vc) w2
   simp only [List.cons_append,List.nil_append] at ht
   rw [← hfr2]
   cases f <;> simp only [Frame.eval] at hev <;> simp [stepG,stepG.exec,hm,ht,hround,henter,stepG.apply,resolve,Deferred.ofValue,invoke,Frame.eval,hev,hy,hce]
  ·simp [stepG,stepG.exec,Frame.finish,hm2,ht2,hend]
end
end
end Go.Abs

/-! Pure calls: over any heap, and nothing of it is touched. -/
namespace Go.Abs
open Go
noncomputable section
def noL:Nat → Prop :=fun _ => False
def Pure (P:Program) (f:FuncId) (args:List AV) (v:AV):Prop :=Live noL v ∧ ∀ B H,CSem P B f args H (.ret v) H
def qqd (P:Program) (f:FuncId) (args:List AV) (R:List Nat) (o:Nat → AObj) (v:AV):Prop :=∀ B H,(∀ x,x ∈ R → H.o x = o x) → CSem P B f args H (.ret v) H
def AH.nil:AH :=⟨0,0,fun _ => .hole⟩
theorem HRel.ofNil {g:Gh} {B:Nat} {w:World} {H:AH} (h:HRel g B w H):HRel g w.heap.size w AH.nil where
 wf :=fun _ _ => rfl
 ge :=fun _ h => absurd rfl h
 inj :=fun _ _ h => absurd rfl h
 rel :=fun _ => trivial
 live :=fun _ => trivial
 kp :=fun _ => trivial
 imz :=h.imz
 hB :=Nat.le_refl _
 gl :=h.gl
theorem qfk (g:Gh) (k:Nat):¬ qhe g AH.nil k :=fun ⟨_,h,_⟩ => h rfl
theorem Out.beside {g g':Gh} {B:Nat} {w w':World} {H H':AH} (h:HRel g B w H) (ho:Out g w.heap.size w AH.nil g' w' H') :
  Out g B w H { g' with ob :=g.ob,cn :=g.cn,cb :=g.cb,cc :=g.cc } w' H :=by
 let g2:Gh :={ g' with ob :=g.ob,cn :=g.cn,cb :=g.cb,cc :=g.cc }
 have hx:Ext H.L g w g2 w' :=⟨fun _ _ => rfl,fun _ _ => Nat.le_refl _,fun _ _ _ => ⟨rfl,rfl⟩,ho.ext.im,ho.ext.cell⟩
 have hbk:∀ x i,g2.bk x i = g.bk x i :=fun x i => by cases x <;> rfl
 refine ⟨⟨h.wf,fun i hi => ?_,fun i j hi hj e => ?_,fun i => ?_,h.live,h.kp,ho.rel.imz,Nat.le_trans h.hB ho.below.size,ho.rel.gl⟩,hx,ho.below.mono h.hB,fun _ hi => hi,fun k hk _ => ho.frame k hk (qfk g k),?_⟩
 ·rw [hbk];exact ⟨(h.ge i hi).1,Nat.lt_of_lt_of_le (h.ge i hi).2 ho.below.size⟩
 ·rw [hbk,hbk] at e;exact h.inj i j hi hj e
 ·by_cases e:H.o i = .hole
  ·rw [e];trivial
  ·have hf :=ho.frame _ (h.ge i e).2 (qfk g _)
   exact (h.rel i).ext hx (h.live i) e hf.1 hf.2 rfl
 ·rintro k ⟨i,hi,e⟩
  rw [hbk] at e
  exact .inl ⟨i,hi,e⟩
theorem VRel.noref {g g':Gh} {w:World} {v:AV} {u:Value} (hv:VRel g w v u) (hl:Live noL v) (him:g'.im = g.im):VRel g' w v u :=
 hv.ext (L :=noL) ⟨fun _ h => h.elim,fun _ h => h.elim,fun _ h => h.elim,fun b => by rw [him];exact Nat.le_refl _,fun _ _ _ => rfl⟩ v u hl
theorem Live.ofNo {L:Nat → Prop} {v:AV} (h:Live noL v):Live L v :=h.mono fun _ h => h.elim
theorem Lives.ofNo {L:Nat → Prop} {vs:List AV} (h:Lives noL vs):Lives L vs :=h.mono fun _ h => h.elim
def Wk (v v':AV):Prop :=∀ g w u,VRel g w v u → VRel g w v' u
theorem qmm {P:Program} {f:FuncId} {args:List AV} {v v':AV} (h:∀ B,∃ H',CSem P B f args AH.nil (.ret v) H') (ha:Lives noL args) (hw:Wk v v') (hl:Live noL v'):Pure P f args v' :=by
 refine ⟨hl,fun B H g vs cs w hr hv _ => ?_⟩
 obtain ⟨H',hc⟩ :=h w.heap.size
 obtain ⟨g',fr',w',h1,h2,h3,u,h4,h5,h6⟩ :=hc g vs cs w hr.ofNil hv ha.ofNo
 exact ⟨_,fr',w',h1.beside hr,h2,h3,u,h4,(hw _ _ _ h5).noref hl rfl,hl.ofNo⟩
/-! The owner of a list's spare places is forgotten. -/
mutual
def wk:AV → AV
 | .lst xs n own => match own with
  | .full => .lst (wkl xs) n .full
  | _ => .lst (wkl xs) n .no
 | .iface t v => .iface t (wk v)
 | .agg cs => .agg (wkl cs)
 | .tup cs => .tup (wkl cs)
 | .lptr xs off => .lptr (wkl xs) off
 |v => v
def wkl:List AV → List AV
 | [] => []
 |x :: xs => wk x :: wkl xs
end
theorem qe7:∀ xs:List AV,(wkl xs).length = xs.length
 | [] => rfl
 |x :: xs => by simp [wkl,qe7 xs]
mutual
theorem qtk (g:Gh) (w:World):∀ (v:AV) (u:Value),VRel g w v u → VRel g w (wk v) u
 | .unk,_,h => h
 | .int _ _,_,h => h
 | .bool _,_,h => h
 | .str _,_,h => h
 | .nilp,_,h => h
 | .ptr _ _,_,h => h
 | .lptr xs off,v,h => by
  simp only [wk,VRel] at h ⊢
  obtain ⟨b,o0,hv,hb,hr⟩ :=h
  exact ⟨b,o0,hv,by rw [qe7];exact hb,qft g w xs b o0 hr⟩
 | .gp _ _,_,h => h
 | .nils,_,h => h
 | .slc _ _ _ _,_,h => h
 | .lst xs n own,v,h => by
  simp only [VRel] at h
  obtain ⟨b,off,cap,hv,hn,hb,hr,ho⟩ :=h
  cases own with
  |no => simp only [wk,VRel];exact ⟨b,off,cap,hv,hn,by rw [qe7];exact hb,qft g w xs b off hr,trivial⟩
  |full => simp only [wk,VRel];exact ⟨b,off,cap,hv,hn,by rw [qe7];exact hb,qft g w xs b off hr,ho⟩
  |ch c => simp only [wk,VRel];exact ⟨b,off,cap,hv,hn,by rw [qe7];exact hb,qft g w xs b off hr,trivial⟩
 | .nilm,_,h => h
 | .map _,_,h => h
 | .nilf,_,h => h
 | .func _ _ _,_,h => h
 | .yld _,_,h => h
 | .nili,_,h => h
 | .iface t a,v,h => by
  simp only [wk,VRel] at h ⊢
  obtain ⟨u,hv,h1⟩ :=h
  exact ⟨u,hv,qtk g w a u h1⟩
 | .agg cs,v,h => by
  simp only [wk,VRel] at h ⊢
  obtain ⟨vs,hv,h1⟩ :=h
  exact ⟨vs,hv,qho g w cs _ h1⟩
 | .tup cs,v,h => by
  simp only [wk,VRel] at h ⊢
  obtain ⟨vs,hv,h1⟩ :=h
  exact ⟨vs,hv,qho g w cs _ h1⟩
theorem qft (g:Gh) (w:World):∀ (xs:List AV) (b off:Nat),LRel g w xs b off → LRel g w (wkl xs) b off
 | [],_,_,_ => trivial
 |x :: xs,b,off,h => by
  simp only [wkl,LRel] at h ⊢
  obtain ⟨⟨u,hu,hv⟩,hr⟩ :=h
  exact ⟨⟨u,hu,qtk g w x u hv⟩,qft g w xs b (off + 1) hr⟩
theorem qho (g:Gh) (w:World):∀ (xs:List AV) (vs:List Value),VRels g w xs vs → VRels g w (wkl xs) vs
 | [],_,h => h
 |x :: xs,vs,h => by
  simp only [wkl,VRels] at h ⊢
  obtain ⟨u,us,e,h1,h2⟩ :=h
  exact ⟨u,us,e,qtk g w x u h1,qho g w xs us h2⟩
end
mutual
theorem qql {L:Nat → Prop}:∀ (v:AV),Live L v → Live L (wk v)
 | .unk,h => h
 | .int _ _,h => h
 | .bool _,h => h
 | .str _,h => h
 | .nilp,h => h
 | .ptr _ _,h => h
 | .lptr xs _,h => qex xs h
 | .gp _ _,h => h
 | .nils,h => h
 | .slc _ _ _ _,h => h
 | .lst xs _ .no,h => ⟨qex xs h.1,fun _ e => by cases e⟩
 | .lst xs _ .full,h => ⟨qex xs h.1,fun _ e => by cases e⟩
 | .lst xs _ (.ch _),h => ⟨qex xs h.1,fun _ e => by cases e⟩
 | .nilm,h => h
 | .map _,h => h
 | .nilf,h => h
 | .func _ _ _,h => h
 | .yld _,h => h
 | .nili,h => h
 | .iface _ a,h => qql a h
 | .agg cs,h => qex cs h
 | .tup cs,h => qex cs h
theorem qex {L:Nat → Prop}:∀ (xs:List AV),Lives L xs → Lives L (wkl xs)
 | [],h => h
 |x :: xs,h => ⟨qql x h.1,qex xs h.2⟩
end
theorem Pure.ofWk {P:Program} {f:FuncId} {args:List AV} {v:AV} (h:Pure P f (wkl args) v):Pure P f args v :=
 ⟨h.1,fun B H g vs cs w hr hv hl => h.2 B H g vs cs w hr (qho g w args _ hv) (qex args hl)⟩
theorem Wk.wk (v:AV):Wk v (wk v) :=fun g w u h => qtk g w v u h
theorem Wk.refl (v:AV):Wk v v :=fun _ _ _ h => h
/-! ### No references -/
mutual
def noref:AV → Bool
 | .ptr _ _ => false
 | .lptr xs _ => norefs xs
 | .slc _ _ _ _ => false
 | .lst xs _ own => match own with
  | .ch _ => false
  | _ => norefs xs
 | .map _ => false
 | .func _ f c => norefs f && norefs c
 | .yld _ => false
 | .iface _ v => noref v
 | .agg cs => norefs cs
 | .tup cs => norefs cs
 | _ => true
def norefs:List AV → Bool
 | [] => true
 |x :: xs => match noref x with
  |true => norefs xs
  |false => false
end
mutual
theorem qhx:∀ (v:AV),noref v = true → Live noL v
 | .unk,_ => trivial
 | .int _ _,_ => trivial
 | .bool _,_ => trivial
 | .str _,_ => trivial
 | .nilp,_ => trivial
 | .ptr _ _,h => by simp [noref] at h
 | .lptr xs _,h => qdq xs (by simpa [noref] using h)
 | .gp _ _,_ => trivial
 | .nils,_ => trivial
 | .slc _ _ _ _,h => by simp [noref] at h
 | .lst xs _ .no,h => ⟨qdq xs (by simpa [noref] using h),fun _ e => by cases e⟩
 | .lst xs _ .full,h => ⟨qdq xs (by simpa [noref] using h),fun _ e => by cases e⟩
 | .lst xs _ (.ch _),h => by simp [noref] at h
 | .nilm,_ => trivial
 | .map _,h => by simp [noref] at h
 | .nilf,_ => trivial
 | .func _ f c,h => by
  simp only [noref,Bool.and_eq_true] at h
  exact ⟨qdq f h.1,qdq c h.2⟩
 | .yld _,h => by simp [noref] at h
 | .nili,_ => trivial
 | .iface _ a,h => qhx a (by simpa [noref] using h)
 | .agg cs,h => qdq cs (by simpa [noref] using h)
 | .tup cs,h => qdq cs (by simpa [noref] using h)
theorem qdq:∀ (xs:List AV),norefs xs = true → Lives noL xs
 | [],_ => trivial
 |x :: xs,h => by
  simp only [norefs] at h
  split at h
  ·rename_i hx
   exact ⟨qhx x hx,qdq xs h⟩
  ·cases h
end
end
end Go.Abs

/-! Regions whose order is drawn: the order of the text stands for all. -/
namespace Go.Abs
open Go
noncomputable section
theorem EvF.slot {s s':Nat}:∀ (p:Plan) (o:Nat → AObj) (r:PRes) (R:List Nat),EvF s p o r R [] → EvF s' p o r R []
 | .ret _,_,_,_,h => h
 | .skip,_,_,_,h => h
 | .fail,_,_,_,h => h
 | .chk _ k,o,r,R,h => ⟨h.1,EvF.slot k o r R h.2⟩
 | .fL xs k,o,r,R,h => EvF.slot (k xs) o r R h
 | .get i k,o,r,R,h => by
  obtain ⟨R',e,h1⟩ :=h
  exact ⟨R',e,EvF.slot (k (o i)) o r R' h1⟩
 | .setcs i off vs k,o,r,R,h => by
  obtain ⟨R',W',t,n,ty,t',e,h1,h2,h3,h4,h5⟩ :=h
  cases h4
 | .seto i x rb k,o,r,R,h => by
  obtain ⟨R',W',e,h1,h2⟩ :=h
  cases h1
 | .newl cs ty k,o,r,R,h => by
  obtain ⟨W',t,h1,h2,h3⟩ :=h
  cases h2
 | .newc n x ty k,o,r,R,h => by
  obtain ⟨W',t,h1,h2,h3⟩ :=h
  cases h2
 | .newo x _ k,o,r,R,h => by
  obtain ⟨W',h1,h2⟩ :=h
  cases h1
 | .call _ _,_,_,_,h => h
 | .yld _ _,_,_,_,h => h
 | .defr _ _,_,_,_,h => h
 | .recover,_,_,_,h => h
 | .panic _,_,_,_,h => h
theorem Tr.set_ex {α:Type}:∀ (t:Tr α) (d:Nat) (x y:α),t.get d = some y → ∃ t':Tr α,∀ j,t'.get j = if j = d then some x else t.get j
 | .nil,d,x,y,h => by rw [Tr.get_nil] at h;cases h
 | .node v l r,d,x,y,h => by
  cases d with
  |zero =>
   refine ⟨.node x l r,fun j => ?_⟩
   cases j with
   |zero => rfl
   |succ j => rw [if_neg (by omega)];exact Tr.get_top _ _ _ _ _
  |succ d =>
   by_cases hd:d % 2 = 0
   ·rw [Tr.get_node_even v l r hd] at h
    obtain ⟨l',hl⟩ :=Tr.set_ex l (d / 2) x y h
    refine ⟨.node v l' r,fun j => ?_⟩
    cases j with
    |zero => rfl
    |succ j =>
     by_cases hj:j % 2 = 0
     ·rw [Tr.get_node_even _ _ _ hj,Tr.get_node_even _ _ _ hj,hl]
      by_cases e:j = d
      ·subst e;simp
      ·rw [if_neg (by omega),if_neg (by omega)]
     ·rw [Tr.get_node_odd _ _ _ hj,Tr.get_node_odd _ _ _ hj,if_neg (by intro e;omega)]
   ·rw [Tr.get_node_odd v l r hd] at h
    obtain ⟨r',hr⟩ :=Tr.set_ex r (d / 2) x y h
    refine ⟨.node v l r',fun j => ?_⟩
    cases j with
    |zero => rfl
    |succ j =>
     by_cases hj:j % 2 = 0
     ·rw [Tr.get_node_even _ _ _ hj,Tr.get_node_even _ _ _ hj,if_neg (by intro e;omega)]
     ·rw [Tr.get_node_odd _ _ _ hj,Tr.get_node_odd _ _ _ hj,hr]
      by_cases e:j = d
      ·subst e;simp
      ·rw [if_neg (by omega),if_neg (by omega)]
theorem AH.put_comm (H:AH) {i j:Nat} (x y:AObj) (r q:Nat) (h:i ≠ j):(H.put i x r).put j y q = (H.put j y q).put i x r :=by
 unfold AH.put
 simp only [AH.mk.injEq]
 refine ⟨by omega,?_,?_⟩
 ·by_cases h1:r ≤ i + 1 <;> by_cases h2:q ≤ j + 1 <;> simp [h1,h2] <;> omega
 ·funext k
  unfold upd
  by_cases h1:k = i <;> by_cases h2:k = j <;> simp [h1,h2] <;> omega
def idxs (W:WL):List Nat :=W.map (·.1)
theorem AH.app_o:∀ (W:WL) (H:AH) (k:Nat),k ∉ idxs W → (H.app W).o k = H.o k
 | [],_,_,_ => rfl
 |(i,x,r) :: W,H,k,h => by
  simp only [idxs,List.map_cons,List.mem_cons,not_or] at h
  have :=AH.app_o W (H.put i x r) k h.2
  rw [AH.app,this]
  exact qqm _ _ h.1
theorem AH.app_put:∀ (W:WL) (H:AH) {i:Nat} (x:AObj) (r:Nat),i ∉ idxs W → (H.put i x r).app W = (H.app W).put i x r
 | [],_,_,_,_,_ => rfl
 |(j,y,q) :: W,H,i,x,r,h => by
  simp only [idxs,List.map_cons,List.mem_cons,not_or] at h
  rw [AH.app,AH.app,AH.put_comm H x y r q h.1]
  exact AH.app_put W _ x r h.2
theorem AH.app_comm:∀ (W W':WL) (H:AH),(∀ i,i ∈ idxs W → i ∉ idxs W') → (H.app W).app W' = (H.app W').app W
 | [],_,_,_ => rfl
 |(i,x,r) :: W,W',H,h => by
  rw [AH.app,AH.app_comm W W' _ fun k hk => h k (by simp only [idxs,List.map_cons,List.mem_cons];exact .inr hk),AH.app_put W' H x r (h i (by simp [idxs]))]
  rfl
/-! ### An operation sees its operands alone -/
theorem qro {P:Program} {T:Tr TypeInfo} {F:Tr Func} {X:XT} {ev ev':Operand → AV} (o:Oper) (h:∀ x ∈ o.op.operands,ev x = ev' x):pOp P T F X ev o = pOp P T F X ev' o :=by
 obtain ⟨dst,op,type,pos,after,guard⟩ :=o
 have pairs:∀ ps:Array (Nat × Operand),(∀ x ∈ (ps.toList.map (·.2)).toArray,ev x = ev' x) → (ps.toList.map fun p => (p.1,ev p.2)) = (ps.toList.map fun p => (p.1,ev' p.2)) :=fun ps hp =>
  List.map_congr_left fun p hm => by
   obtain ⟨i,x⟩ :=p
   simp only [hp x (by simp only [List.mem_toArray,List.mem_map];exact ⟨(i,x),hm,rfl⟩)]
 have args:∀ xs:Array Operand,(∀ x ∈ xs,ev x = ev' x) → xs.toList.map ev = xs.toList.map ev' :=fun xs hp => List.map_congr_left fun x hx => hp x (by simpa using hx)
 rw [qn8,qn8]
 cases op <;> simp only [Op.operands] at h <;> simp only [pOpM]
 case build t ps => rw [pairs ps h]
 case buildSlice t n ps => rw [pairs ps h]
 case makeFunc fn first captured => rw [args first fun x hx => h x (by simp [hx]),args captured fun x hx => h x (by simp [hx])]
 case slice t x lo hi mx => cases lo <;> cases hi <;> cases mx <;> simp_all
 case call c =>
  have ha :=args c.args fun x hx => h x (by simp [Call.operands,hx])
  cases hc:c.callee with
  |builtin b => simp only [ha]
  |value f => simp only [ha,h f (by simp [Call.operands,hc])]
  |invoke r m => simp only [ha,h r (by simp [Call.operands,hc])]
 case defer c =>
  have ha :=args c.args fun x hx => h x (by simp [Call.operands,hx])
  cases hc:c.callee with
  |value f => simp only [ha,h f (by simp [Call.operands,hc])]
  | _ => rfl
 all_goals (first|rfl | (simp_all;done))
/-! ### Records -/
inductive RK where
 |off
 |val
 |skip
 |call (f:FuncId) (args:List AV)
 |pure (f:FuncId) (args:List AV)
 |yld
structure Rec where
 k:RK
 v:AV
 R:List Nat
 W:WL
 U:List Nat
 n0:Nat
def Rec.isCall (r:Rec):Bool :=match r.k with | .call _ _ => true | .yld => true | _ => false
def Rec.isYld (r:Rec):Bool :=match r.k with | .yld => true | _ => false
section
variable {P:Program} {T:Tr TypeInfo} {F:Tr Func} {X:XT} {B:Nat} {ops:Array Oper} {base:Nat}
def RKOk (P:Program) (T:Tr TypeInfo) (F:Tr Func) (X:XT) (B:Nat) (ops:Array Oper) (s:Nat) (o:Oper) (r:Rec) (tm:Tr AV) (H H':AH):Prop :=
 match r.k with
 | .off => qcv ops tm o = some false ∧ r.v = .tup [] ∧ r.W = [] ∧ H' = H
 | .val => qcv ops tm o = some true ∧ (r.W ≠ [] → H.o s = .hole) ∧ EvF s (pOp P T F X (aev tm) o) H.o (.val r.v) r.R r.W ∧ H' = H.app r.W
 | .skip => qcv ops tm o = some true ∧ (r.W ≠ [] → H.o s = .hole) ∧ EvF s (pOp P T F X (aev tm) o) H.o .skip r.R r.W ∧ r.v = .tup [] ∧ H' = H.app r.W
 | .call f args => qcv ops tm o = some true ∧ r.W = [] ∧ EvF s (pOp P T F X (aev tm) o) H.o (.call f args) r.R [] ∧ CSem P B f args H (.ret r.v) H' ∧ ∀ x,x < r.n0 → x ∉ r.U → H'.o x = H.o x
 | .pure f args => qcv ops tm o = some true ∧ r.W = [] ∧ (∃ R0,(∀ x,x ∈ R0 → x ∈ r.R) ∧ EvF s (pOp P T F X (aev tm) o) H.o (.call f args) R0 []) ∧ qqd P f args r.R H.o r.v ∧ H' = H
 | .yld => True
structure RStep (P:Program) (T:Tr TypeInfo) (F:Tr Func) (X:XT) (B:Nat) (ops:Array Oper) (base:Nat) (i:Nat) (r:Rec) (σ σ':St):Prop where
 df:σ'.df = σ.df
 pm:σ'.pm = σ.pm
 rd:σ'.rd = σ.rd
 ex:∃ o,ops[i]? = some o ∧ SetD σ.tm o.dst r.v σ'.tm ∧ RKOk P T F X B ops (base + i) o r σ.tm σ.H σ'.H
 op:r.isYld = true → OpS P B ops i σ .normal σ'
theorem RStep.opS (hT:TOK P T) (hF:FOK P F) (hX:XOK P X) {i:Nat} {r:Rec} {σ σ':St} (h:RStep P T F X B ops base i r σ σ'):OpS P B ops i σ .normal σ' :=by
 obtain ⟨h1,h2,h3,⟨o,ho,hs,hk⟩,hy⟩ :=h
 obtain ⟨tm',df',pm',rd',H'⟩ :=σ'
 simp only at h1 h2 h3 hs hk
 subst h1 h2 h3
 obtain ⟨k,v,R,W,U,n0⟩ :=r
 simp only at hs
 unfold RKOk at hk
 simp only at hk
 cases k with
 |off =>
  obtain ⟨k1,rfl,rfl,rfl⟩ :=hk
  exact OpS.skip ho k1 hs
 |val =>
  obtain ⟨k1,k2,k3,rfl⟩ :=hk
  by_cases hW:W = []
  ·subst hW
   exact fun g fr cs w rest k hr hm ht => OpS.val hT hF hX ho k1 (hr.h.wf _ (Nat.le_refl _)) k3.slot hs g fr cs w rest k hr hm ht
  ·exact OpS.val hT hF hX ho k1 (k2 hW) k3 hs
 |skip =>
  obtain ⟨k1,k2,k3,rfl,rfl⟩ :=hk
  by_cases hW:W = []
  ·subst hW
   exact fun g fr cs w rest k hr hm ht => OpS.none hT hF hX ho k1 (hr.h.wf _ (Nat.le_refl _)) k3.slot hs g fr cs w rest k hr hm ht
  ·exact OpS.none hT hF hX ho k1 (k2 hW) k3 hs
 |call f args =>
  obtain ⟨k1,rfl,k3,k4,_⟩ :=hk
  exact fun g fr cs w rest k hr hm ht => OpS.call hT hF hX ho k1 (hr.h.wf _ (Nat.le_refl _)) k3.slot k4 hs g fr cs w rest k hr hm ht
 |pure f args =>
  obtain ⟨k1,rfl,⟨R0,_,k3⟩,k4,rfl⟩ :=hk
  exact fun g fr cs w rest k hr hm ht => OpS.call hT hF hX ho k1 (hr.h.wf _ (Nat.le_refl _)) k3.slot (k4 B _ fun _ _ => rfl) hs g fr cs w rest k hr hm ht
 |yld => exact hy rfl
def HInd (base i:Nat) (ri:Rec) (j:Nat) (rj:Rec):Prop :=
 (ri.isYld = false ∧ rj.isYld = false) ∧ match ri.isCall,rj.isCall with
 |true,true => False
 |true,false => rj.W = [] ∧ ∀ x,x ∈ rj.R → x < ri.n0 ∧ x ∉ ri.U
 |false,true => ri.W = [] ∧ ∀ x,x ∈ ri.R → x < rj.n0 ∧ x ∉ rj.U
 |false,false => (∀ x,x ∈ idxs ri.W → x ≠ base + j ∧ x ∉ rj.R ∧ x ∉ idxs rj.W) ∧ (∀ x,x ∈ idxs rj.W → x ≠ base + i ∧ x ∉ ri.R)
theorem qyf {tm tm':Tr AV} {d:Option Tmp} {v:AV} (h:SetD tm d v tm') {x:Operand} (hx:∀ t,d = some t → x ≠ .tmp t):aev tm' x = aev tm x :=by
 cases d with
 |none =>
  have h:tm' = tm :=h
  rw [h]
 |some t =>
  cases x with
  |tmp j =>
   have hne:j ≠ t :=fun e => hx t rfl (by rw [e])
   rw [qk5,qk5,h.2 j,if_neg hne]
  | _ => rfl
theorem qjo {tm tm':Tr AV} {d:Option Tmp} {v:AV} (h:SetD tm d v tm') {o:Oper} (hx:∀ t,d = some t → t ∉ o.looksAt ops):qcv ops tm' o = qcv ops tm o :=by
 cases d with
 |none =>
  have h:tm' = tm :=h
  rw [h]
 |some t =>
  rw [qio,qio]
  unfold qos
  cases hg:o.guard with
  |none => rfl
  |some p =>
   obtain ⟨j,want⟩ :=p
   simp only
   cases hj:ops[j]? with
   |none => rfl
   |some oj =>
    simp only
    cases hd:oj.dst with
    |none => rfl
    |some d' =>
     have hne:d' ≠ t :=fun e => hx t rfl (by subst e;simp [Oper.looksAt,hg,hj,hd])
     simp only
     rw [h.2 d',if_neg hne]
theorem qrn {tm tm':Tr AV} {d:Option Tmp} {v:AV} (h:SetD tm d v tm') {o:Oper} (hx:∀ t,d = some t → t ∉ o.looksAt ops):pOp P T F X (aev tm') o = pOp P T F X (aev tm) o :=
 qro o fun x hm => qyf h fun t hd hxt => hx t hd (by
  subst hxt
  exact List.mem_append_left _ (List.mem_filterMap.2 ⟨.tmp t,by simpa using hm,rfl⟩))
end
end
end Go.Abs

/-! Regions whose order is drawn: the order of the text stands for all (on). -/
namespace Go.Abs
open Go
noncomputable section
section
variable {P:Program} {T:Tr TypeInfo} {F:Tr Func} {X:XT} {B:Nat} {ops:Array Oper} {base:Nat}
theorem RKOk.frame {s:Nat} {o:Oper} {r:Rec} {tm tm1:Tr AV} {H H1 H':AH} (hc:r.isCall = false) (h:RKOk P T F X B ops s o r tm H H') (hg:qcv ops tm1 o = qcv ops tm o) (hp:pOp P T F X (aev tm1) o = pOp P T F X (aev tm) o)
  (hR:∀ x,x ∈ r.R → H1.o x = H.o x) (hs:r.W ≠ [] → H.o s = .hole → H1.o s = .hole):H' = H.app r.W ∧ RKOk P T F X B ops s o r tm1 H1 (H1.app r.W) :=by
 obtain ⟨k,v,R,W,U,n0⟩ :=r
 unfold RKOk at h ⊢
 simp only at h hR hs ⊢
 rw [hg,hp]
 cases k with
 |off =>
  obtain ⟨k1,k2,rfl,rfl⟩ :=h
  exact ⟨rfl,k1,k2,rfl,rfl⟩
 |val =>
  obtain ⟨k1,k2,k3,rfl⟩ :=h
  exact ⟨rfl,k1,fun hW => hs hW (k2 hW),k3.agree _ _ _ _ _ _ hR,trivial⟩
 |skip =>
  obtain ⟨k1,k2,k3,k4,rfl⟩ :=h
  exact ⟨rfl,k1,fun hW => hs hW (k2 hW),k3.agree _ _ _ _ _ _ hR,k4,trivial⟩
 |call f args => simp [Rec.isCall] at hc
 |yld => simp [Rec.isCall] at hc
 |pure f args =>
  obtain ⟨k1,rfl,⟨R0,k0,k3⟩,k4,rfl⟩ :=h
  exact ⟨rfl,k1,rfl,⟨R0,k0,k3.agree _ _ _ _ _ _ fun x hx => hR x (k0 x hx)⟩,fun B H2 h2 => k4 B H2 fun x hx => (h2 x hx).trans (hR x hx),rfl⟩
theorem RKOk.keeps {s:Nat} {o:Oper} {r:Rec} {tm:Tr AV} {H H':AH} (hc:r.isCall = true) (hy:r.isYld = false) (h:RKOk P T F X B ops s o r tm H H'):∀ x,x < r.n0 → x ∉ r.U → H'.o x = H.o x :=by
 obtain ⟨k,v,R,W,U,n0⟩ :=r
 unfold RKOk at h
 simp only at h ⊢
 cases k with
 |call f args => exact h.2.2.2.2
 |yld => simp [Rec.isYld] at hy
 | _ => simp [Rec.isCall] at hc
theorem RKOk.tm {s:Nat} {o:Oper} {r:Rec} {tm tm1:Tr AV} {H H':AH} (h:RKOk P T F X B ops s o r tm H H') (hg:qcv ops tm1 o = qcv ops tm o) (hp:pOp P T F X (aev tm1) o = pOp P T F X (aev tm) o):RKOk P T F X B ops s o r tm1 H H' :=by
 unfold RKOk at h ⊢
 rw [hg,hp]
 exact h
theorem SetD.look {tm tm':Tr AV} {d:Option Tmp} {v:AV} (h:SetD tm d v tm') (j:Nat):tm'.get j = if d = some j then some v else tm.get j :=by
 cases d with
 |none =>
  have h:tm' = tm :=h
  rw [h];simp
 |some t =>
  rw [h.2 j]
  by_cases e:j = t
  ·subst e;simp
  ·rw [if_neg e,if_neg (by intro h;cases h;exact e rfl)]
theorem SetD.ex {tm:Tr AV} {d:Option Tmp} {v:AV} (h:∀ t,d = some t → ∃ y,tm.get t = some y):∃ tm',SetD tm d v tm' :=by
 cases d with
 |none => exact ⟨tm,rfl⟩
 |some t =>
  obtain ⟨y,hy⟩ :=h t rfl
  obtain ⟨t',ht⟩ :=Tr.set_ex tm t v y hy
  exact ⟨t',⟨y,hy⟩,ht⟩
theorem RStep.swap {j i:Nat} {rj ri:Rec} {σ σ1 σ2:St} (hj:RStep P T F X B ops base j rj σ σ1) (hi:RStep P T F X B ops base i ri σ1 σ2)
  (ha:∀ oj oi,ops[j]? = some oj → ops[i]? = some oi → oj.apart ops oi = true) (_hne:base + j ≠ base + i) (hind:HInd base j rj i ri) :
  ∃ σ1',RStep P T F X B ops base i ri σ σ1' ∧ RStep P T F X B ops base j rj σ1' σ2 :=by
 obtain ⟨a1,a2,a3,⟨oj,hoj,sj,kj⟩,_⟩ :=hj
 obtain ⟨b1,b2,b3,⟨oi,hoi,si,ki⟩,_⟩ :=hi
 obtain ⟨⟨yj,yi⟩,hind⟩ :=hind
 obtain ⟨h1,h2,h3⟩ :=Oper.apart_spec (ha oj oi hoj hoi)
 have hdi:∀ t,oi.dst = some t → ∃ y,σ.tm.get t = some y :=fun t ht => by
  rw [ht] at si
  obtain ⟨⟨y,hy⟩,_⟩ :=si
  rw [sj.look] at hy
  rw [if_neg (fun e => h2 t e ht)] at hy
  exact ⟨y,hy⟩
 obtain ⟨tm',st,st2⟩ : ∃ tm',SetD σ.tm oi.dst ri.v tm' ∧ SetD tm' oj.dst rj.v σ2.tm :=by
  cases hd:oj.dst with
  |none =>
   rw [hd] at sj
   have e1:σ1.tm = σ.tm :=sj
   rw [e1] at si
   exact ⟨σ2.tm,si,rfl⟩
  |some t =>
   obtain ⟨tm',st⟩ :=SetD.ex (v :=ri.v) hdi
   refine ⟨tm',st,?_,fun k => ?_⟩
   ·rw [hd] at sj
    obtain ⟨⟨y,hy⟩,_⟩ :=sj
    refine ⟨y,?_⟩
    rw [st.look,if_neg (fun e => h2 t hd e)]
    exact hy
   ·rw [si.look,st.look,sj.look,hd]
    by_cases e:k = t
    ·subst e
     rw [if_neg (fun e => h2 k hd e)]
     simp
    ·rw [if_neg (show ¬ some t = some k by intro h;cases h;exact e rfl),if_neg e]
 have gi:qcv ops σ.tm oi = qcv ops σ1.tm oi :=(qjo sj h1).symm
 have pi:pOp P T F X (aev σ.tm) oi = pOp P T F X (aev σ1.tm) oi :=(qrn sj h1).symm
 have gj:qcv ops tm' oj = qcv ops σ.tm oj :=qjo st h3
 have pj:pOp P T F X (aev tm') oj = pOp P T F X (aev σ.tm) oj :=qrn st h3
 cases hcj:rj.isCall with
 |true =>
  rw [hcj] at hind
  cases hci:ri.isCall with
  |true => rw [hci] at hind;exact hind.elim
  |false =>
   rw [hci] at hind
   obtain ⟨hW,hR⟩ :=hind
   obtain ⟨k1,k2⟩ :=ki.frame hci (tm1 :=σ.tm) (H1 :=σ.H) gi pi (fun x hx => (kj.keeps hcj yj x (hR x hx).1 (hR x hx).2).symm) (fun h => absurd hW h)
   rw [hW] at k1 k2
   have k1:σ2.H = σ1.H :=k1
   refine ⟨{ σ with tm :=tm' },⟨rfl,rfl,rfl,⟨oi,hoi,st,k2⟩,fun e => by rw [yi] at e;cases e⟩,⟨b1.trans a1,b2.trans a2,b3.trans a3,⟨oj,hoj,st2,?_⟩,fun e => by rw [yj] at e;cases e⟩⟩
   rw [k1]
   exact kj.tm gj pj
 |false =>
  rw [hcj] at hind
  cases hci:ri.isCall with
  |true =>
   rw [hci] at hind
   obtain ⟨hW,hR⟩ :=hind
   have k1 :=(kj.frame hcj (tm1 :=σ.tm) (H1 :=σ.H) rfl rfl (fun _ _ => rfl) (fun _ h => h)).1
   rw [hW] at k1
   have k1:σ1.H = σ.H :=k1
   obtain ⟨_,k2⟩ :=kj.frame hcj (tm1 :=tm') (H1 :=σ2.H) gj pj (fun x hx => by rw [ki.keeps hci yi x (hR x hx).1 (hR x hx).2,k1]) (fun h => absurd hW h)
   rw [hW] at k2
   refine ⟨{ σ with tm :=tm',H :=σ2.H },⟨rfl,rfl,rfl,⟨oi,hoi,st,?_⟩,fun e => by rw [yi] at e;cases e⟩,⟨b1.trans a1,b2.trans a2,b3.trans a3,⟨oj,hoj,st2,k2⟩,fun e => by rw [yj] at e;cases e⟩⟩
   rw [k1] at ki
   exact ki.tm gi pi
  |false =>
   rw [hci] at hind
   obtain ⟨q1,q2⟩ :=hind
   have kj0 :=(kj.frame hcj (tm1 :=σ.tm) (H1 :=σ.H) rfl rfl (fun _ _ => rfl) (fun _ h => h)).1
   obtain ⟨k1,k2⟩ :=ki.frame hci (tm1 :=σ.tm) (H1 :=σ.H) gi pi (fun x hx => by
    rw [kj0];exact (AH.app_o _ _ _ fun h => (q1 x h).2.1 hx).symm) (fun _ h => by
    rw [kj0,AH.app_o _ _ _ fun h => (q1 _ h).1 rfl] at h;exact h)
   obtain ⟨k3,k4⟩ :=kj.frame hcj (tm1 :=tm') (H1 :=σ.H.app ri.W) gj pj (fun x hx => AH.app_o _ _ _ fun h => (q2 x h).2 hx)
    (fun _ h => by rw [AH.app_o _ _ _ fun h => (q2 _ h).1 rfl];exact h)
   refine ⟨{ σ with tm :=tm',H :=σ.H.app ri.W },⟨rfl,rfl,rfl,⟨oi,hoi,st,k2⟩,fun e => by rw [yi] at e;cases e⟩,⟨b1.trans a1,b2.trans a2,b3.trans a3,⟨oj,hoj,st2,?_⟩,fun e => by rw [yj] at e;cases e⟩⟩
   have:σ2.H = (σ.H.app ri.W).app rj.W :=by rw [k1,kj0,AH.app_comm _ _ _ fun x hx => (q1 x hx).2.2]
   rw [this]
   exact k4
/-! ### Chains of operations -/
def qi5 (P:Program) (T:Tr TypeInfo) (F:Tr Func) (X:XT) (B:Nat) (ops:Array Oper) (base:Nat):List (Nat × Rec) → St → St → Prop
 | [],σ,σ' => σ' = σ
 |(i,r) :: l,σ,σ' => ∃ σ1,RStep P T F X B ops base i r σ σ1 ∧ qi5 P T F X B ops base l σ1 σ'
def Ind (ops:Array Oper) (base:Nat) (a b:Nat × Rec):Prop :=
 (∀ oj oi,ops[a.1]? = some oj → ops[b.1]? = some oi → oj.apart ops oi = true) ∧ HInd base a.1 a.2 b.1 b.2
theorem qi5.front {i:Nat} {r:Rec} {post:List (Nat × Rec)} {σ':St}:∀ (pre:List (Nat × Rec)) (σ:St),qi5 P T F X B ops base (pre ++ (i,r) :: post) σ σ' → (∀ a,a ∈ pre → a.1 ≠ i ∧ Ind ops base a (i,r)) →
  ∃ σ1,RStep P T F X B ops base i r σ σ1 ∧ qi5 P T F X B ops base (pre ++ post) σ1 σ'
 | [],σ,h,_ => h
 |(j,rj) :: pre,σ,h,hi => by
  obtain ⟨σ1,h1,h2⟩ :=h
  obtain ⟨σ2,h3,h4⟩ :=qi5.front pre σ1 h2 fun a ha => hi a (List.mem_cons_of_mem _ ha)
  obtain ⟨hne,hap,hin⟩ :=hi (j,rj) (by simp)
  obtain ⟨σ3,h5,h6⟩ :=h1.swap h3 hap (by simp only at hne;omega) hin
  exact ⟨σ3,h5,σ2,h6,h4⟩
/-! ### The order of the edges -/
inductive Anc (ops:Array Oper):Nat → Nat → Prop
 |edge {i j:Nat} {o:Oper} {e:Edge}:ops[i]? = some o → e ∈ o.after → Region.binds .any e = true → e.on = j → Anc ops i j
 |trans {i j:Nat} {o:Oper} {e:Edge}:ops[i]? = some o → e ∈ o.after → Region.binds .any e = true → Anc ops e.on j → Anc ops i j
def qvl (ops:Array Oper) (listed:Array Bool):Prop :=
 ∀ i o,listed.getD i false = true → ops[i]? = some o → ∀ e,e ∈ o.after → Region.binds .any e = true → listed.getD e.on false = true
theorem Anc.listed {listed:Array Bool} (hd:qvl ops listed) {i j:Nat} (h:Anc ops i j):listed.getD i false = true → listed.getD j false = true :=by
 induction h with
 |edge h1 h2 h3 h4 => intro hl;subst h4;exact hd _ _ hl h1 _ h2 h3
 |trans h1 h2 h3 _ ih => intro hl;exact ih (hd _ _ hl h1 _ h2 h3)
theorem Anc.ready {listed:Array Bool} (hd:qvl ops listed) {i j:Nat} (h:Anc ops i j) (hr:i ∈ Region.ready .any ops listed):listed.getD j false = true :=by
 obtain ⟨_,o,ho,hall⟩ :=mem_ready.1 hr
 cases h with
 |edge h1 h2 h3 h4 =>
  rw [ho] at h1;cases h1
  subst h4;exact hall _ h2 h3
 |trans h1 h2 h3 h4 =>
  rw [ho] at h1;cases h1
  exact h4.listed hd (hall _ h2 h3)
theorem qza (hT:TOK P T) (hF:FOK P F) (hX:XOK P X) (htop:∀ i o,ops[i]? = some o → ∀ e,e ∈ o.after → Region.binds .any e = true → e.on < i):∀ (n:Nat) (recs:List (Nat × Rec)) (t:Nat) (listed:Array Bool) (σ σ':St),
  recs.length = n → listed.size = ops.size → qvl ops listed → (∀ i,(∃ r,(i,r) ∈ recs) ↔ (i < ops.size ∧ listed.getD i true = false)) →
  recs.Pairwise (fun a b => a.1 < b.1 ∧ (Anc ops b.1 a.1 ∨ Ind ops base a b)) → qi5 P T F X B ops base recs σ σ' →
  SemT P B [.inRegion ops (Region.linearise.go .any ops n t listed [])] σ .normal σ' :=by
 intro n
 induction n with
 |zero =>
  intro recs t listed σ σ' hn _ _ _ _ hc
  have:recs = [] :=List.eq_nil_of_length_eq_zero hn
  subst this
  have hc:σ' = σ :=hc
  subst hc
  exact SemT.region_nil
 |succ n ih =>
  intro recs t listed σ σ' hn hsz hd hmem hpw hc
  have hnone:∀ i,i < ops.size → listed.getD i true = true → listed.getD i false = true :=fun i hi h => by
   have:i < listed.size :=by omega
   simpa [this] using h
  -- the first one is ready
  have hfirst:Region.ready .any ops listed ≠ [] :=by
   cases recs with
   |nil => simp at hn
   |cons p rest =>
    obtain ⟨i0,r0⟩ :=p
    have h0 :=(hmem i0).1 ⟨r0,by simp⟩
    have:i0 ∈ Region.ready .any ops listed :=by
     rw [mem_ready]
     refine ⟨h0.2,ops[i0],Array.getElem?_eq_getElem h0.1,fun e he hb => ?_⟩
     have hlt :=htop i0 _ (Array.getElem?_eq_getElem h0.1) e he hb
     apply hnone _ (by omega)
     cases hl:listed.getD e.on true with
     |true => rfl
     |false =>
      obtain ⟨r,hr⟩ :=(hmem e.on).2 ⟨by omega,hl⟩
      rcases List.mem_cons.1 hr with h | h
      ·cases h;omega
      ·have :=(List.pairwise_cons.1 hpw).1 _ h
       simp only at this;omega
    intro e
    rw [e] at this
    cases this
  simp only [Region.linearise.go]
  show SemT P B [.inRegion ops (match (Region.ready .any ops listed)[t % (Region.ready .any ops listed).length]? with
   |some i => Region.linearise.go .any ops n (t / (Region.ready .any ops listed).length) (listed.setIfInBounds i true) [i]
   |none => [].reverse)] σ .normal σ'
  cases hi:(Region.ready .any ops listed)[t % (Region.ready .any ops listed).length]? with
  |none =>
   exfalso
   cases hr:Region.ready .any ops listed with
   |nil => exact hfirst hr
   |cons x xs =>
    rw [hr] at hi
    have hlt:t % (x :: xs).length < (x :: xs).length :=Nat.mod_lt _ (by simp)
    rw [List.getElem?_eq_getElem hlt] at hi
    cases hi
  |some i =>
   simp only []
   rw [linearise_go_acc,List.reverse_singleton,List.singleton_append]
   have hir :=List.mem_of_getElem? hi
   obtain ⟨q1,o,q2,q3⟩ :=mem_ready.1 hir
   have hilt:i < ops.size :=(Array.getElem?_eq_some_iff.1 q2).1
   obtain ⟨r,hr⟩ :=(hmem i).2 ⟨hilt,q1⟩
   obtain ⟨pre,post,hsplit⟩ :=List.append_of_mem hr
   subst hsplit
   have hpw' :=List.pairwise_append.1 hpw
   have hpre:∀ a,a ∈ pre → a.1 ≠ i ∧ Ind ops base a (i,r) :=fun a ha => by
    have h1 :=hpw'.2.2 a ha (i,r) (by simp)
    refine ⟨by have :=h1.1;simp only at this;omega,?_⟩
    rcases h1.2 with h2 | h2
    ·have h3 :=h2.ready hd hir
     have h4 :=((hmem a.1).1 ⟨a.2,by simp [ha]⟩)
     have:a.1 < listed.size :=by omega
     have h5 :=h4.2
     simp [this] at h3 h5
     rw [h3] at h5
     cases h5
    ·exact h2
   obtain ⟨σ1,hs1,hs2⟩ :=qi5.front pre σ hc hpre
   refine SemT.region_cons (hs1.opS hT hF hX) (ih (pre ++ post) _ _ _ _ ?_ ?_ ?_ ?_ ?_ hs2)
   ·simp only [List.length_append,List.length_cons] at hn ⊢;omega
   ·simpa using hsz
   ·intro k ok hk hok e he hb
    by_cases hki:k = i
    ·subst hki
     rw [q2] at hok;cases hok
     exact getD_set_true (q3 e he hb)
    ·rw [getD_set_ne false (Ne.symm hki)] at hk
     exact getD_set_true (hd k ok hk hok e he hb)
   ·intro k
    constructor
    ·rintro ⟨rk,hk⟩
     have hk':(k,rk) ∈ pre ++ (i,r) :: post :=by
      rcases List.mem_append.1 hk with h | h
      ·exact List.mem_append_left _ h
      ·exact List.mem_append_right _ (List.mem_cons_of_mem _ h)
     have h1 :=(hmem k).1 ⟨rk,hk'⟩
     have hne:k ≠ i :=by
      rcases List.mem_append.1 hk with h | h
      ·have :=(hpre _ h).1;simpa using this
      ·have :=(List.pairwise_cons.1 hpw'.2.1).1 _ h
       simp only at this;omega
     exact ⟨h1.1,by rw [getD_set_ne true (Ne.symm hne)];exact h1.2⟩
    ·rintro ⟨h1,h2⟩
     have hne:k ≠ i :=by
      intro e
      subst e
      have:k < listed.size :=by omega
      simp [this] at h2
     rw [getD_set_ne true (Ne.symm hne)] at h2
     obtain ⟨rk,hk⟩ :=(hmem k).2 ⟨h1,h2⟩
     refine ⟨rk,?_⟩
     rcases List.mem_append.1 hk with h | h
     ·exact List.mem_append_left _ h
     ·rcases List.mem_cons.1 h with h | h
      ·cases h;exact absurd rfl hne
      ·exact List.mem_append_right _ h
   ·refine List.pairwise_append.2 ⟨hpw'.1,(List.pairwise_cons.1 hpw'.2.1).2,fun a ha b hb => hpw'.2.2 a ha b (List.mem_cons_of_mem _ hb)⟩
end
end
end Go.Abs

/-! Regions whose order is drawn: the check. -/
namespace Go.Abs
open Go
noncomputable section
def qvb (acc:List Nat):List Edge → Nat → Nat
 | [],s => s
 |e :: es,s => qvb acc es (if Region.binds .any e then s ||| 2 ^ e.on ||| acc.getD e.on 0 else s)
def ancs:List Oper → List Nat → List Nat
 | [],acc => acc
 |o :: os,acc => ancs os (acc ++ [qvb acc o.after.toList 0])
def qts:List Oper → Nat → Bool
 | [],_ => true
 |o :: os,i => o.after.toList.all (fun e => !Region.binds .any e || decide (e.on < i)) && qts os (i + 1)
def pairs (A:List Nat) (n:Nat):List (Nat × Nat) :=
 (List.range n).flatMap fun i => ((List.range i).filter fun j => !((A.getD i 0).testBit j)).map fun j => (j,i)
def qtp (ops:Array Oper):Option (List (Nat × Nat)) :=
 if qts ops.toList 0 && (pairs (ancs ops.toList []) ops.size).all (fun p => match ops[p.1]? with
   |some a => match ops[p.2]? with
    |some b => a.apart ops b
    |none => false
   |none => false) then some (pairs (ancs ops.toList []) ops.size) else none
section
variable {ops:Array Oper}
def qtd (ops:Array Oper) (acc:List Nat):Prop :=∀ i m,acc[i]? = some m → ∀ j,m.testBit j = true → Anc ops i j
theorem qo2 {acc:List Nat} {Q:Nat → Prop}:∀ (es:List Edge) (s:Nat),(∀ j,s.testBit j = true → Q j) → (∀ e,e ∈ es → Region.binds .any e = true → Q e.on ∧ ∀ j,(acc.getD e.on 0).testBit j = true → Q j) →
  ∀ j,(qvb acc es s).testBit j = true → Q j
 | [],_,hs,_,j,h => hs j h
 |e :: es,s,hs,he,j,h => by
  refine qo2 es _ ?_ (fun e' he' => he e' (List.mem_cons_of_mem _ he')) j h
  intro k hk
  split at hk
  ·rename_i hb
   obtain ⟨h1,h2⟩ :=he e (by simp) hb
   simp only [Nat.testBit_or,Bool.or_eq_true,Nat.testBit_two_pow,decide_eq_true_eq] at hk
   rcases hk with (hk | hk) | hk
   ·exact hs k hk
   ·subst hk;exact h1
   ·exact h2 k hk
  ·exact hs k hk
theorem qtb:∀ (os:List Oper) (acc:List Nat) (pre:List Oper),ops.toList = pre ++ os → pre.length = acc.length → qtd ops acc → qtd ops (ancs os acc)
 | [],_,_,_,_,h => h
 |o :: os,acc,pre,hp,hl,h => by
  have ho:ops[acc.length]? = some o :=by
   rw [← Array.getElem?_toList,hp,← hl]
   simp
  refine qtb os _ (pre ++ [o]) (by simp [hp]) (by simp [hl]) ?_
  intro i m hi j hj
  rw [List.getElem?_append] at hi
  split at hi
  ·exact h i m hi j hj
  ·rename_i hge
   have hi0:i = acc.length :=by
    have:i - acc.length < 1 :=by
     rcases Nat.lt_or_ge (i - acc.length) 1 with h | h
     ·exact h
     ·simp [List.getElem?_eq_none (l :=[qvb acc o.after.toList 0]) (by simpa using h)] at hi
    omega
   subst hi0
   simp only [Nat.sub_self,List.getElem?_cons_zero,Option.some.injEq] at hi
   subst hi
   refine qo2 o.after.toList 0 (fun j h => by simp at h) ?_ j hj
   intro e he hb
   refine ⟨.edge ho (by simpa using he) hb rfl,fun k hk => ?_⟩
   cases hg:acc[e.on]? with
   |none => simp [hg] at hk
   |some m =>
    simp [hg] at hk
    exact .trans ho (by simpa using he) hb (h _ m hg k hk)
theorem qnr:∀ (os:List Oper) (k:Nat),qts os k = true → ∀ i o,os[i]? = some o → ∀ e,e ∈ o.after → Region.binds .any e = true → e.on < k + i
 | [],_,_,_,_,h,_,_,_ => by simp at h
 |o :: os,k,h,i,o',hi,e,he,hb => by
  simp only [qts,Bool.and_eq_true] at h
  cases i with
  |zero =>
   simp only [List.getElem?_cons_zero,Option.some.injEq] at hi
   subst hi
   have :=List.all_eq_true.1 h.1 e (by simpa using he)
   simpa [hb] using this
  |succ i =>
   have :=qnr os (k + 1) h.2 i o' (by simpa using hi) e he hb
   omega
theorem qto {U:List (Nat × Nat)} (h:qtp ops = some U):(∀ i o,ops[i]? = some o → ∀ e,e ∈ o.after → Region.binds .any e = true → e.on < i) ∧
  ∀ j i,j < i → i < ops.size → Anc ops i j ∨ ((j,i) ∈ U ∧ ∀ oj oi,ops[j]? = some oj → ops[i]? = some oi → oj.apart ops oi = true) :=by
 unfold qtp at h
 split at h <;> try cases h
 rename_i hc
 simp only [Bool.and_eq_true,List.all_eq_true] at hc
 refine ⟨fun i o ho e he hb => ?_,fun j i hji hi => ?_⟩
 ·have :=qnr ops.toList 0 hc.1 i o (by simpa using ho) e he hb
  omega
 ·by_cases hb:((ancs ops.toList []).getD i 0).testBit j = true
  ·left
   have hok:qtd ops (ancs ops.toList []) :=qtb ops.toList [] [] rfl rfl fun i m h => by simp at h
   cases hg:(ancs ops.toList [])[i]? with
   |none => simp [hg] at hb
   |some m =>
    simp [hg] at hb
    exact hok i m hg j hb
  ·right
   have hm:(j,i) ∈ pairs (ancs ops.toList []) ops.size :=by
    simp only [pairs,List.mem_flatMap,List.mem_range,List.mem_map,List.mem_filter]
    exact ⟨i,hi,j,⟨hji,by simpa using hb⟩,rfl⟩
   refine ⟨hm,fun oj oi hj hi => ?_⟩
   have :=hc.2 _ hm
   simpa [hj,hi] using this
def indC (base i:Nat) (ri:Rec) (j:Nat) (rj:Rec):Bool :=
 match ri.isCall with
 |true => match rj.isCall with
  |true => false
  |false => rj.W.isEmpty && rj.R.all (fun x => Nat.blt x ri.n0 && !(ri.U.contains x))
 |false => match rj.isCall with
  |true => ri.W.isEmpty && ri.R.all (fun x => Nat.blt x rj.n0 && !(rj.U.contains x))
  |false => (idxs ri.W).all (fun x => x != base + j && !(rj.R.contains x) && !((idxs rj.W).contains x)) && (idxs rj.W).all (fun x => x != base + i && !(ri.R.contains x))
def indB (base i:Nat) (ri:Rec) (j:Nat) (rj:Rec):Bool :=
 match ri.isYld with
 |true => false
 |false => match rj.isYld with
  |true => false
  |false => indC base i ri j rj
theorem qxv {base i j:Nat} {ri rj:Rec} (h:indB base i ri j rj = true):HInd base i ri j rj :=by
 unfold indB at h
 unfold HInd
 split at h
 ·cases h
 rename_i y1
 split at h
 ·cases h
 rename_i y2
 refine ⟨⟨y1,y2⟩,?_⟩
 clear y1 y2
 unfold indC at h
 split at h
 ·rename_i h1
  split at h
  ·cases h
  ·rename_i h2
   rw [h1,h2]
   simp only [Bool.and_eq_true,List.isEmpty_iff,List.all_eq_true,Bool.not_eq_true',List.contains_eq_mem,decide_eq_false_iff_not] at h
   exact ⟨h.1,fun x hx => ⟨by have :=(h.2 x hx).1;rwa [Nat.blt_eq] at this,(h.2 x hx).2⟩⟩
 ·rename_i h1
  split at h
  ·rename_i h2
   rw [h1,h2]
   simp only [Bool.and_eq_true,List.isEmpty_iff,List.all_eq_true,Bool.not_eq_true',List.contains_eq_mem,decide_eq_false_iff_not] at h
   exact ⟨h.1,fun x hx => ⟨by have :=(h.2 x hx).1;rwa [Nat.blt_eq] at this,(h.2 x hx).2⟩⟩
  ·rename_i h2
   rw [h1,h2]
   simp only [Bool.and_eq_true,List.all_eq_true,bne_iff_ne,Bool.not_eq_true',List.contains_eq_mem,decide_eq_false_iff_not] at h
   exact ⟨fun x hx => ⟨(h.1 x hx).1.1,(h.1 x hx).1.2,(h.1 x hx).2⟩,fun x hx => h.2 x hx⟩
def lab (k:Nat):List Rec → List (Nat × Rec)
 | [] => []
 |r :: rs => (k,r) :: lab (k + 1) rs
theorem qkt:∀ (rs:List Rec) (k i:Nat) (r:Rec),(i,r) ∈ lab k rs ↔ k ≤ i ∧ rs[i - k]? = some r
 | [],k,i,r => by simp [lab]
 |r0 :: rs,k,i,r => by
  simp only [lab,List.mem_cons,Prod.mk.injEq,qkt rs (k + 1) i r]
  constructor
  ·rintro (⟨rfl,rfl⟩ | ⟨h1,h2⟩)
   ·simp
   ·refine ⟨by omega,?_⟩
    have:i - k = (i - (k + 1)) + 1 :=by omega
    rw [this];simpa using h2
  ·rintro ⟨h1,h2⟩
   by_cases e:i = k
   ·subst e
    simp at h2
    exact .inl ⟨rfl,h2.symm⟩
   ·right
    have:i - k = (i - (k + 1)) + 1 :=by omega
    rw [this] at h2
    exact ⟨by omega,by simpa using h2⟩
theorem qjn:∀ (rs:List Rec) (k:Nat),(lab k rs).length = rs.length
 | [],_ => rfl
 | _ :: rs,k => by simp [lab,qjn rs (k + 1)]
theorem qhh {Q:Nat × Rec → Nat × Rec → Prop}:∀ (rs:List Rec) (k:Nat),(∀ i j a b,k ≤ i → i < j → rs[i - k]? = some a → rs[j - k]? = some b → Q (i,a) (j,b)) → (lab k rs).Pairwise Q
 | [],_,_ => List.Pairwise.nil
 |r :: rs,k,h => by
  refine List.pairwise_cons.2 ⟨fun p hp => ?_,qhh rs (k + 1) fun i j a b h1 h2 h3 h4 => ?_⟩
  ·obtain ⟨h1,h2⟩ :=(qkt rs (k + 1) p.1 p.2).1 hp
   refine h k p.1 r p.2 (Nat.le_refl _) (by omega) (by simp) ?_
   have:p.1 - k = (p.1 - (k + 1)) + 1 :=by omega
   rw [this];simpa using h2
  ·refine h i j a b (by omega) h2 ?_ ?_
   ·have:i - k = (i - (k + 1)) + 1 :=by omega
    rw [this];simpa using h3
   ·have:j - k = (j - (k + 1)) + 1 :=by omega
    rw [this];simpa using h4
def qsj (base:Nat) (rs:List Rec) (U:List (Nat × Nat)):Bool :=
 U.all fun p => match rs[p.1]? with
  |some a => match rs[p.2]? with
   |some b => indB base p.1 a p.2 b
   |none => false
  |none => false
variable {P:Program} {T:Tr TypeInfo} {F:Tr Func} {X:XT} {B:Nat}
theorem Sem.region_drawn (hT:TOK P T) (hF:FOK P F) (hX:XOK P X) (hmx:P.follows .mixedOrders = true) {id:Nat} {U:List (Nat × Nat)} (hU:qtp ops = some U) {rs:List Rec} (hlen:rs.length = ops.size)
  {σ σ':St} (hind:qsj σ.H.n rs U = true) (hch:qi5 P T F X B ops σ.H.n (lab 0 rs) { σ with H :=σ.H.room ops.size } σ'):Sem P B (.region id ops true) σ .normal σ' :=by
 obtain ⟨htop,hun⟩ :=qto hU
 have hmem:∀ i,(∃ r,(i,r) ∈ lab 0 rs) ↔ (i < ops.size ∧ (Array.replicate ops.size false).getD i true = false) :=by
  intro i
  constructor
  ·rintro ⟨r,hr⟩
   have h1 :=((qkt rs 0 i r).1 hr).2
   have h2:i < ops.size :=by
    have :=(List.getElem?_eq_some_iff.1 h1).1
    omega
   exact ⟨h2,by simp [h2]⟩
  ·rintro ⟨h1,_⟩
   have h2:i < rs.length :=by omega
   exact ⟨rs[i],(qkt rs 0 i _).2 ⟨Nat.zero_le _,by simp [h2]⟩⟩
 have hpw:(lab 0 rs).Pairwise (fun a b => a.1 < b.1 ∧ (Anc ops b.1 a.1 ∨ Ind ops σ.H.n a b)) :=by
  refine qhh rs 0 fun i j a b _ hij ha hb => ⟨hij,?_⟩
  have hj:j < ops.size :=by
   have :=(List.getElem?_eq_some_iff.1 hb).1
   omega
  rcases hun i j hij hj with h | ⟨h1,h2⟩
  ·exact .inl h
  ·refine .inr ⟨h2,qxv ?_⟩
   have :=List.all_eq_true.1 hind _ h1
   simp only [Nat.sub_zero] at ha hb
   simpa [ha,hb] using this
 have hd:qvl ops (Array.replicate ops.size false) :=by
  intro i o h
  exfalso
  rw [Array.getD_eq_getD_getElem?,Array.getElem?_replicate] at h
  split at h <;> simp at h
 intro g fr cs w k hr hm ht hro k' hk
 have hdr:Out g B w σ.H g w.drew (σ.H.room ops.size) :=
  ⟨(Out.drew hr.h).rel.room _,(Out.drew hr.h).ext,(Out.drew hr.h).below,fun _ h => h,(Out.drew hr.h).frame,(Out.drew hr.h).own⟩
 have hr1 :=hr.out hdr
 have hmain :=fun t => qza hT hF hX htop rs.length (lab 0 rs) t (Array.replicate ops.size false) _ _ (qjn rs 0) (by simp) hd hmem hpw hch
 simp only [List.cons_append,List.nil_append] at ht
 have hstep:∃ t,Steps P (lone fr cs w) (lone { fr with todo :=.inRegion ops (Region.linearise .any ops t) :: k } cs w.drew) :=by
  have hrun:∃ t,(choose (.order fr.fn id)).run P w = .ok t w.drew :=by
   rw [run_choose_drew]
   exact ⟨_,rfl⟩
  obtain ⟨t,ht'⟩ :=hrun
  refine ⟨t,qcj ?_⟩
  simp [-run_choose,-run_choose_drew,stepG,stepG.exec,hm,ht,ht',Region.schedule,hmx]
 obtain ⟨t,hstep⟩ :=hstep
 have hm1 :=hmain t
 rw [hlen] at hm1
 obtain ⟨g1,fr1,cs1,w1,q1,q2,q3,q4,q5,q6,q7⟩ :=hm1 g { fr with todo :=.inRegion ops (Region.linearise .any ops t) :: k } cs w.drew k (hr1.todo _) hm rfl (fun e => by cases e) k' hk
 exact ⟨g1,fr1,cs1,w1,q1,hdr.trans q2,⟨q3.fn,q3.kind,q3.round⟩,q4,q5,q6,hstep.trans q7⟩
end
end
end Go.Abs

namespace Go.Abs
open Go
noncomputable section
abbrev bif2 (b:Bool) (F T:Prop):Prop :=@Bool.rec (fun _ => Prop) F T b
def fcN (y:Bool) (n:Nat) (K:Nat → Prop):Prop :=@Bool.rec (fun _ => Prop) (@Nat.rec (fun _ => Prop) (K 0) (fun m _ => K (Nat.succ m)) n) (K n) y
theorem qsw {y:Bool} {n:Nat} {K:Nat → Prop} (h:fcN y n K):K n :=by
 cases y with
 |true => exact h
 |false => cases n <;> exact h
theorem qcw {n:Nat} {K:Nat → Prop} (h:fcN false n K):K n :=qsw h
def fcI0 (i:Int) (K:Int → Prop):Prop :=
 @Int.rec (fun _ => Prop) (fun n => fcN false n fun n => K (.ofNat n)) (fun n => fcN false n fun n => K (.negSucc n)) i
theorem qx2 {i:Int} {K:Int → Prop} (h:fcI0 i K):K i :=by
 cases i with
 |ofNat n => exact qcw (K :=fun n => K (.ofNat n)) h
 |negSucc n => exact qcw (K :=fun n => K (.negSucc n)) h
def fcB (b:Bool) (K:Bool → Prop):Prop :=@Bool.rec (fun _ => Prop) (K false) (K true) b
theorem qzi {b:Bool} {K:Bool → Prop} (h:fcB b K):K b :=by cases b <;> exact h
def fcU (u:UInt8) (K:UInt8 → Prop):Prop :=fcN false u.toNat fun n => K (UInt8.ofNat n)
theorem qwd {u:UInt8} {K:UInt8 → Prop} (h:fcU u K):K u :=by
 have :=qcw (K :=fun n => K (UInt8.ofNat n)) h
 simpa using this
def fcL0 {α:Type} (f:α → (α → Prop) → Prop) (xs:List α):(List α → Prop) → Prop :=
 @List.rec α (fun _ => (List α → Prop) → Prop) (fun K => K []) (fun x _ ih K => f x fun x => ih fun xs => K (x :: xs)) xs
theorem qf0 {α:Type} {f:α → (α → Prop) → Prop} (hf:∀ x K,f x K → K x):∀ (xs:List α) (K:List α → Prop),fcL0 f xs K → K xs
 | [],_,h => h
 |x :: xs,K,h => qf0 hf xs (fun xs => K (x :: xs)) (hf x (fun x => fcL0 f xs fun xs => K (x :: xs)) h)
def fcL {α:Type} (y:Bool) (f:α → (α → Prop) → Prop) (xs:List α) (K:List α → Prop):Prop :=@Bool.rec (fun _ => Prop) (fcL0 f xs K) (K xs) y
theorem qzg {α:Type} {y:Bool} {f:α → (α → Prop) → Prop} (hf:∀ x K,f x K → K x) (xs:List α) (K:List α → Prop) (h:fcL y f xs K):K xs :=by
 cases y with
 |true => exact h
 |false => exact qf0 hf xs K h
def fcS {α:Type} (xs:List α):(List α → Prop) → Prop :=
 @List.rec α (fun _ => (List α → Prop) → Prop) (fun K => K []) (fun x _ ih K => ih fun xs => K (x :: xs)) xs
theorem qwe {α:Type}:∀ (xs:List α) (K:List α → Prop),fcS xs K → K xs
 | [],_,h => h
 |x :: xs,K,h => qwe xs (fun xs => K (x :: xs)) h
abbrev FV :=(AV → Prop) → Prop
def fcH0 (v:AV):(AV → Prop) → Prop :=
 @AV.rec (fun _ => FV) (fun _ => Unit)
  (fun K => K .unk)
  (fun k n K => K (.int k n))
  (fun b K => K (.bool b))
  (fun s K => K (.str s))
  (fun K => K .nilp)
  (fun o off K => K (.ptr o off))
  (fun xs off _ K => K (.lptr xs off))
  (fun g off K => K (.gp g off))
  (fun K => K .nils)
  (fun o off len cap K => K (.slc o off len cap))
  (fun xs n own _ K => K (.lst xs n own))
  (fun K => K .nilm)
  (fun o K => K (.map o))
  (fun K => K .nilf)
  (fun fn f c _ _ K => K (.func fn f c))
  (fun o K => K (.yld o))
  (fun K => K .nili)
  (fun t a _ K => K (.iface t a))
  (fun cs _ K => K (.agg cs))
  (fun vs _ K => K (.tup vs))
  () (fun _ _ _ _ => ()) v
def qo6 (v:AV):Option Bool :=
 @AV.rec (fun _ => Option Bool) (fun _ => Unit)
  none (fun _ _ => none) (fun b => some b) (fun _ => none) none (fun _ _ => none) (fun _ _ _ => none) (fun _ _ => none) none (fun _ _ _ _ => none) (fun _ _ _ _ => none)
  none (fun _ => none) none (fun _ _ _ _ _ => none) (fun _ => none) none (fun _ _ _ => none) (fun _ _ => none) (fun _ _ => none)
  () (fun _ _ _ _ => ()) v
theorem qs8 {v:AV} {b:Bool} (h:qo6 v = some b):v = .bool b :=by
 cases v <;> cases h <;> rfl
theorem qf1 {v:AV} {K:AV → Prop} (h:fcH0 v K):K v :=by cases v <;> exact h
def qsu (w:Own) (K:Own → Prop):Prop :=
 match w with
 | .no => K .no
 | .full => K .full
 | .ch c => fcN false c fun c => K (.ch c)
theorem qu4 {w:Own} {K:Own → Prop} (h:qsu w K):K w :=by
 cases w with
 |ch c => exact qcw (K :=fun c => K (.ch c)) h
 | _ => exact h
def fcA0 (v:AV):(AV → Prop) → Prop :=
 @AV.rec (fun _ => FV) (fun _ => Unit)
  (fun K => K .unk)
  (fun k n K => fcI0 n fun n => K (.int k n))
  (fun b K => fcB b fun b => K (.bool b))
  (fun s K => fcL0 fcU s fun s => K (.str s))
  (fun K => K .nilp)
  (fun o off K => fcN false o fun o => fcN false off fun off => K (.ptr o off))
  (fun xs off _ K => fcL0 fcH0 xs fun xs => fcN false off fun off => K (.lptr xs off))
  (fun g off K => fcN false g fun g => fcN false off fun off => K (.gp g off))
  (fun K => K .nils)
  (fun o off len cap K => fcN false o fun o => fcN false off fun off => fcN false len fun len => fcN false cap fun cap => K (.slc o off len cap))
  (fun xs n own _ K => fcL0 fcH0 xs fun xs => fcN false n fun n => qsu own fun own => K (.lst xs n own))
  (fun K => K .nilm)
  (fun o K => fcN false o fun o => K (.map o))
  (fun K => K .nilf)
  (fun fn f c _ _ K => fcL0 fcH0 f fun f => fcL0 fcH0 c fun c => K (.func fn f c))
  (fun o K => K (.yld o))
  (fun K => K .nili)
  (fun t a _ K => fcH0 a fun a => K (.iface t a))
  (fun cs _ K => fcL0 fcH0 cs fun cs => K (.agg cs))
  (fun vs _ K => fcL0 fcH0 vs fun cs => K (.tup cs))
  () (fun _ _ _ _ => ()) v
theorem fcLH {xs:List AV} {K:List AV → Prop} (h:fcL0 fcH0 xs K):K xs :=qf0 (fun _ _ h => qf1 h) xs K h
theorem qkz {v:AV} {K:AV → Prop} (h:fcA0 v K):K v :=by
 cases v with
 |int k n => exact qx2 (K :=fun n => K (.int k n)) h
 |bool b => exact qzi (K :=fun b => K (.bool b)) h
 |str s => exact qf0 (fun _ _ h => qwd h) s (fun s => K (.str s)) h
 |ptr o off => exact qcw (K :=fun off => K (.ptr o off)) (qcw (K :=fun o => fcN false off fun off => K (.ptr o off)) h)
 |gp o off => exact qcw (K :=fun off => K (.gp o off)) (qcw (K :=fun o => fcN false off fun off => K (.gp o off)) h)
 |lptr xs off => exact qcw (K :=fun off => K (.lptr xs off)) (fcLH (K :=fun xs => fcN false off fun off => K (.lptr xs off)) h)
 |slc o off len cap =>
  have h1 :=qcw (K :=fun o => fcN false off fun off => fcN false len fun len => fcN false cap fun cap => K (.slc o off len cap)) h
  have h2 :=qcw (K :=fun off => fcN false len fun len => fcN false cap fun cap => K (.slc o off len cap)) h1
  have h3 :=qcw (K :=fun len => fcN false cap fun cap => K (.slc o off len cap)) h2
  exact qcw (K :=fun cap => K (.slc o off len cap)) h3
 |lst xs n own =>
  have h1 :=fcLH (K :=fun xs => fcN false n fun n => qsu own fun own => K (.lst xs n own)) h
  have h2 :=qcw (K :=fun n => qsu own fun own => K (.lst xs n own)) h1
  exact qu4 (K :=fun own => K (.lst xs n own)) h2
 |map o => exact qcw (K :=fun o => K (.map o)) h
 |func fn f c =>
  have h1 :=fcLH (K :=fun f => fcL0 fcH0 c fun c => K (.func fn f c)) h
  exact fcLH (K :=fun c => K (.func fn f c)) h1
 |agg cs => exact fcLH (K :=fun cs => K (.agg cs)) h
 |tup cs => exact fcLH (K :=fun cs => K (.tup cs)) h
 |iface t a => exact qf1 (K :=fun a => K (.iface t a)) h
 | _ => exact h
def fcV0 (v:AV):(AV → Prop) → Prop :=
 @AV.rec (fun _ => FV) (fun _ => Unit)
  (fun K => K .unk)
  (fun k n K => fcI0 n fun n => K (.int k n))
  (fun b K => fcB b fun b => K (.bool b))
  (fun s K => fcL0 fcU s fun s => K (.str s))
  (fun K => K .nilp)
  (fun o off K => fcN false o fun o => fcN false off fun off => K (.ptr o off))
  (fun xs off _ K => fcL0 fcH0 xs fun xs => fcN false off fun off => K (.lptr xs off))
  (fun g off K => fcN false g fun g => fcN false off fun off => K (.gp g off))
  (fun K => K .nils)
  (fun o off len cap K => fcN false o fun o => fcN false off fun off => fcN false len fun len => fcN false cap fun cap => K (.slc o off len cap))
  (fun xs n own _ K => fcL0 fcH0 xs fun xs => fcN false n fun n => qsu own fun own => K (.lst xs n own))
  (fun K => K .nilm)
  (fun o K => fcN false o fun o => K (.map o))
  (fun K => K .nilf)
  (fun fn f c _ _ K => fcL0 fcH0 f fun f => fcL0 fcH0 c fun c => K (.func fn f c))
  (fun o K => K (.yld o))
  (fun K => K .nili)
  (fun t a _ K => fcA0 a fun a => K (.iface t a))
  (fun cs _ K => fcL0 fcA0 cs fun cs => K (.agg cs))
  (fun vs _ K => fcL0 fcA0 vs fun cs => K (.tup cs))
  () (fun _ _ _ _ => ()) v
theorem qst {v:AV} {K:AV → Prop} (h:fcV0 v K):K v :=by
 cases v with
 |agg cs => exact qf0 (fun _ _ h => qkz h) cs (fun cs => K (.agg cs)) h
 |tup cs => exact qf0 (fun _ _ h => qkz h) cs (fun cs => K (.tup cs)) h
 |iface t a => exact qkz (K :=fun a => K (.iface t a)) h
 | _ => exact qkz h
def fcM0 (v:AV):(AV → Prop) → Prop :=
 @AV.rec (fun _ => FV) (fun _ => Unit)
  (fun K => K .unk)
  (fun k n K => K (.int k n))
  (fun b K => K (.bool b))
  (fun s K => K (.str s))
  (fun K => K .nilp)
  (fun o off K => K (.ptr o off))
  (fun xs off _ K => K (.lptr xs off))
  (fun g off K => K (.gp g off))
  (fun K => K .nils)
  (fun o off len cap K => K (.slc o off len cap))
  (fun xs n own _ K => K (.lst xs n own))
  (fun K => K .nilm)
  (fun o K => K (.map o))
  (fun K => K .nilf)
  (fun fn f c _ _ K => K (.func fn f c))
  (fun o K => K (.yld o))
  (fun K => K .nili)
  (fun t a _ K => K (.iface t a))
  (fun cs _ K => fcL0 fcH0 cs fun cs => K (.agg cs))
  (fun vs _ K => fcL0 fcH0 vs fun cs => K (.tup cs))
  () (fun _ _ _ _ => ()) v
theorem qky {v:AV} {K:AV → Prop} (h:fcM0 v K):K v :=by
 cases v with
 |agg cs => exact fcLH (K :=fun cs => K (.agg cs)) h
 |tup cs => exact fcLH (K :=fun cs => K (.tup cs)) h
 | _ => exact h
def fcV (y:Bool) (v:AV) (K:AV → Prop):Prop :=@Bool.rec (fun _ => Prop) (fcV0 v K) (fcM0 v K) y
theorem qwc {y:Bool} {v:AV} {K:AV → Prop} (h:fcV y v K):K v :=by
 cases y with
 |true => exact qky h
 |false => exact qst h
def fcE (p:AV × AV) (K:AV × AV → Prop):Prop :=
 match p with
 |(a,b) => fcH0 a fun a => fcH0 b fun b => K (a,b)
theorem qzh {p:AV × AV} {K:AV × AV → Prop} (h:fcE p K):K p :=by
 obtain ⟨a,b⟩ :=p
 exact qf1 (K :=fun b => K (a,b)) (qf1 (K :=fun a => fcH0 b fun b => K (a,b)) h)
def fcO0 (x:AObj) (K:AObj → Prop):Prop :=
 match x with
 | .cells t n ty => fcN false n fun n => K (.cells t n ty)
 | .chain n sz ty => fcN false n fun n => fcN false sz fun sz => K (.chain n sz ty)
 | .mapo es => fcL0 fcE es fun es => K (.mapo es)
 | .siter s pos => fcL0 fcU s fun s => fcN false pos fun pos => K (.siter s pos)
 |x => K x
theorem qx0 {x:AObj} {K:AObj → Prop} (h:fcO0 x K):K x :=by
 cases x with
 |cells t n ty => exact qcw (K :=fun n => K (.cells t n ty)) h
 |chain n sz ty => exact qcw (K :=fun sz => K (.chain n sz ty)) (qcw (K :=fun n => fcN false sz fun sz => K (.chain n sz ty)) h)
 |mapo es => exact qf0 (fun _ _ h => qzh h) es (fun es => K (.mapo es)) h
 |siter s pos =>
  have h1 :=qf0 (fun _ _ h => qwd h) s (fun s => fcN false pos fun pos => K (.siter s pos)) h
  exact qcw (K :=fun pos => K (.siter s pos)) h1
 | _ => exact h
def fcO (y:Bool) (x:AObj) (K:AObj → Prop):Prop :=@Bool.rec (fun _ => Prop) (fcO0 x K) (K x) y
theorem qwf {y:Bool} {x:AObj} {K:AObj → Prop} (h:fcO y x K):K x :=by
 cases y with
 |true => exact h
 |false => exact qx0 h
def putL {α:Type} (xs:List α):Nat → Tr α → (Tr α → Prop) → Prop :=
 @List.rec α (fun _ => Nat → Tr α → (Tr α → Prop) → Prop) (fun _ t K => K t) (fun x _ ih i t K => t.insK i x fun t => fcN false (Nat.succ i) fun i => ih i t K) xs
theorem putL_ok {α:Type}:∀ (xs:List α) (i:Nat) (t:Tr α) (K:Tr α → Prop),putL xs i t K → ∃ t',K t' ∧ ∀ j,t'.get j = if i ≤ j ∧ j < i + xs.length then xs[j - i]? else t.get j
 | [],i,t,K,h => ⟨t,h,fun j => by simp;omega⟩
 |x :: xs,i,t,K,h => by
  obtain ⟨t1,h1,h2⟩ :=Tr.insK_spec t i (fun t => fcN false (Nat.succ i) fun i => putL xs i t K) h
  obtain ⟨t',h3,h4⟩ :=putL_ok xs _ t1 K (qcw (K :=fun i => putL xs i t1 K) h1)
  refine ⟨t',h3,fun j => ?_⟩
  rw [h4,h2]
  by_cases e:j = i
  ·subst e;simp;intro h;omega
  ·rw [if_neg e]
   by_cases h5:i + 1 ≤ j ∧ j < i + 1 + xs.length
   ·rw [if_pos h5,if_pos (by simp only [List.length_cons];omega)]
    have:j - i = (j - (i + 1)) + 1 :=by omega
    rw [this];simp
   ·rw [if_neg h5,if_neg (by simp only [List.length_cons];omega)]
def setL {α:Type} (xs:List α):Nat → Tr α → (Tr α → Prop) → Prop :=
 @List.rec α (fun _ => Nat → Tr α → (Tr α → Prop) → Prop) (fun _ t K => K t) (fun x _ ih i t K => t.setK i x fun t => fcN false (Nat.succ i) fun i => ih i t K) xs
theorem qmg {α:Type}:∀ (xs:List α) (i:Nat) (t:Tr α) (K:Tr α → Prop),setL xs i t K → ∃ t',K t' ∧ ∀ j,t'.get j = if i ≤ j ∧ j < i + xs.length then xs[j - i]? else t.get j
 | [],i,t,K,h => ⟨t,h,fun j => by simp;omega⟩
 |x :: xs,i,t,K,h => by
  obtain ⟨t1,h1,_,h2⟩ :=Tr.setK_spec t i (fun t => fcN false (Nat.succ i) fun i => setL xs i t K) h
  obtain ⟨t',h3,h4⟩ :=qmg xs _ t1 K (qcw (K :=fun i => setL xs i t1 K) h1)
  refine ⟨t',h3,fun j => ?_⟩
  rw [h4,h2]
  by_cases e:j = i
  ·subst e;simp;intro h;omega
  ·rw [if_neg e]
   by_cases h5:i + 1 ≤ j ∧ j < i + 1 + xs.length
   ·rw [if_pos h5,if_pos (by simp only [List.length_cons];omega)]
    have:j - i = (j - (i + 1)) + 1 :=by omega
    rw [this];simp
   ·rw [if_neg h5,if_neg (by simp only [List.length_cons];omega)]
def repL {α:Type} (x:α) (n:Nat) (K:Tr α → Prop):Prop :=Tr.copyK x 64 n fun _ t => K t
theorem qmj {α:Type} {x:α} {n:Nat} {K:Tr α → Prop} (h:repL x n K):∃ t,K t ∧ ∀ j,t.get j = if j < n then some x else none :=by
 obtain ⟨_,t,h1,_,h2⟩ :=Tr.copyK_spec 64 n _ h
 exact ⟨t,h1,h2⟩
theorem qis {α:Type} (x:α):∀ (f n:Nat),n + 1 < 2 ^ f → ∃ s t:Tr α,∀ K:Tr α → Tr α → Prop,Tr.copyK x f n K ↔ K s t
 | 0,n,h => by simp at h
 |f + 1,0,_ => ⟨.node x .nil .nil,.nil,fun K => Iff.rfl⟩
 |f + 1,n + 1,h => by
  have h2:n / 2 + 1 < 2 ^ f :=by rw [Nat.pow_succ] at h;omega
  obtain ⟨s,t,hk⟩ :=qis x f (n / 2) h2
  by_cases e:n % 2 = 0
  ·refine ⟨.node x s t,.node x t t,fun K => ?_⟩
   rw [Tr.copyK,hk,e];exact Iff.rfl
  ·have e:n % 2 = 1 :=by omega
   refine ⟨.node x s s,.node x s t,fun K => ?_⟩
   rw [Tr.copyK,hk,e];exact Iff.rfl
theorem qyu {α:Type} (x:α) (n:Nat):∃ t:Tr α,∀ j,t.get j = if j < n then some x else none :=by
 have hn:n + 1 < 2 ^ (n + 1) :=Nat.lt_two_pow_self
 obtain ⟨s,t,hk⟩ :=qis x (n + 1) n hn
 obtain ⟨_,t',_,_,h2⟩ :=Tr.copyK_spec (n + 1) n (fun a b => a = s ∧ b = t) ((hk _).2 ⟨rfl,rfl⟩)
 exact ⟨t',h2⟩
def repS {α:Type} (x:α) (n:Nat) (K:Tr α → Prop):Prop :=∀ t:Tr α,(∀ j,t.get j = if j < n then some x else none) → K t
def repY {α:Type} (y:Bool) (x:α) (n:Nat) (K:Tr α → Prop):Prop :=
 @Bool.rec (fun _ => Prop) (repL x n K) (@Bool.rec (fun _ => Prop) (repL x n K) (repS x n K) (Nat.ble 32 n)) y
theorem qw5 {α:Type} {y:Bool} {x:α} {n:Nat} {K:Tr α → Prop} (h:repY y x n K):∃ t,K t ∧ ∀ j,t.get j = if j < n then some x else none :=by
 cases y with
 |false => exact qmj h
 |true =>
  unfold repY at h
  cases e:Nat.ble 32 n with
  |false => rw [e] at h;exact qmj h
  |true =>
   rw [e] at h
   obtain ⟨t,ht⟩ :=qyu x n
   exact ⟨t,h t ht,ht⟩
def hv (h:Tr AObj) (i:Nat):AObj :=
 match h.get i with
 |some x => x
 |none => .hole
def putO (h:Tr AObj) (n s:Nat) (x:AObj) (K:Tr AObj → Nat → Prop):Prop :=
 @Bool.rec (fun _ => Prop) (h.setK s x fun h => K h n) (h.insK s x fun h => fcN false (Nat.succ n) fun n => K h n) (Nat.beq s n)
def HEnd (h:Tr AObj) (n:Nat):Prop :=∀ i,n ≤ i → h.get i = none
theorem HEnd.hole {h:Tr AObj} {n:Nat} (he:HEnd h n) {i:Nat} (hi:n ≤ i):hv h i = .hole :=by simp [hv,he i hi]
theorem qfg {h:Tr AObj} {n s:Nat} {x:AObj} {K:Tr AObj → Nat → Prop} (hp:putO h n s x K) (he:HEnd h n):∃ h' n',K h' n' ∧ hv h' = upd (hv h) s x ∧ HEnd h' n' ∧ n ≤ n' :=by
 unfold putO at hp
 cases e:Nat.beq s n with
 |true =>
  rw [e] at hp
  have e:s = n :=Nat.eq_of_beq_eq_true e
  obtain ⟨h',h1,h2⟩ :=Tr.insK_spec h s (fun h => fcN false (Nat.succ n) fun n => K h n) hp
  have h1 :=qcw (K :=fun n => K h' n) h1
  have hh:hv h' = upd (hv h) s x :=by
   funext j
   simp only [hv,upd,h2]
   by_cases e:j = s
   ·simp [e]
   ·simp [e]
  refine ⟨h',n + 1,h1,hh,fun i hi => ?_,by omega⟩
  rw [h2,if_neg (by omega)]
  exact he i (by omega)
 |false =>
  rw [e] at hp
  obtain ⟨h',h1,⟨y,hy⟩,h2⟩ :=Tr.setK_spec h s (fun h => K h n) hp
  have hh:hv h' = upd (hv h) s x :=by
   funext j
   simp only [hv,upd,h2]
   by_cases e:j = s
   ·simp [e]
   ·simp [e]
  refine ⟨h',n,h1,hh,fun i hi => ?_,Nat.le_refl _⟩
  have hs:s < n :=Nat.lt_of_not_le fun hle => by rw [he s hle] at hy;cases hy
  rw [h2,if_neg (by omega)]
  exact he i hi
def getO (h:Tr AObj) (i:Nat) (K:AObj → Prop):Prop :=@Option.rec AObj (fun _ => Prop) False (fun x => K x) (h.get i)
abbrev KP :=PRes → List Nat → WL → Tr AObj → Nat → Prop
def qnx (x:AObj):Bool → Nat → Nat → List AV → Tr AObj → Nat → (Tr AObj → Nat → AObj → Prop) → Prop :=
 match x with
 | .cells t m ty => fun y i off vs h n K => @Bool.rec (fun _ => Prop) False (fcL0 fcH0 vs fun vs => fcN y off fun off => setL vs off t fun t => putO h n i (.cells t m ty) fun h n => K h n (.cells t m ty)) (Nat.ble (off + vs.length) m)
 | _ => fun _ _ _ _ _ _ _ => False
def runP (p:Plan):Bool → Nat → Tr AObj → Nat → KP → Prop :=
 @Plan.rec (fun _ => Bool → Nat → Tr AObj → Nat → KP → Prop)
  (fun v _ _ h n K => K (.val v) [] [] h n)
  (fun _ _ h n K => K .skip [] [] h n)
  (fun _ _ _ _ _ => False)
  (fun b _ ih y s h n K => @Bool.rec (fun _ => Prop) False (ih y s h n K) b)
  (fun xs _ ih y s h n K => fcL y fcH0 xs fun xs => ih xs y s h n K)
  (fun i _ ih y s h n K => fcN false i fun i => getO h i fun x => ih x y s h n fun r R W h n => K r (i :: R) W h n)
  (fun i off vs _ ih y s h n K => fcN false i fun i => getO h i fun x => qnx x y i off vs h n fun h n x' => ih y s h n fun r R W h n => K r (i :: R) ((i,x',bdl vs) :: W) h n)
  (fun i x rb _ ih y s h n K => fcN false i fun i => fcO y x fun x => putO h n i x fun h n => ih y s h n fun r R W h n => K r (i :: R) ((i,x,rb) :: W) h n)
  (fun cs ty _ ih y s h n K => fcL0 fcH0 cs fun cs => putL cs 0 .nil fun t => fcN false cs.length fun m => putO h n s (.cells t m ty) fun h n => ih s y s h n fun r R W h n => K r R ((s,.cells t m ty,bdl cs) :: W) h n)
  (fun m x ty _ ih y s h n K => fcN false m fun m => fcH0 x fun x => repY y x m fun t => putO h n s (.cells t m ty) fun h n => ih s y s h n fun r R W h n => K r R ((s,.cells t m ty,bd x) :: W) h n)
  (fun x q _ ih y s h n K => fcO y x fun x => putO h n s x fun h n => ih s y s h n fun r R W h n => K r R ((s,x,q) :: W) h n)
  (fun f args _ _ h n K => fcN false f fun f => fcL0 fcH0 args fun args => K (.call f args) [] [] h n)
  (fun l args _ _ h n K => fcN false l fun l => fcL0 fcH0 args fun args => K (.yld l args) [] [] h n)
  (fun f args _ _ h n K => fcN false f fun f => fcL0 fcH0 args fun args => K (.defr f args) [] [] h n)
  (fun _ _ h n K => K .recover [] [] h n)
  (fun v y _ h n K => fcV y v fun v => K (.panic v) [] [] h n)
  p
def appO (o:Nat → AObj):WL → Nat → AObj
 | [] => o
 |(i,x,_) :: W => appO (upd o i x) W
theorem qk4:∀ (W:WL) (H:AH),(H.app W).o = appO H.o W
 | [],_ => rfl
 |(i,x,r) :: W,H => qk4 W (H.put i x r)
theorem qip {h:Tr AObj} {i:Nat} {K:AObj → Prop} (hg:getO h i K):K (hv h i) :=by
 unfold getO at hg
 unfold hv
 cases e:h.get i with
 |none => rw [e] at hg;exact hg.elim
 |some x => rw [e] at hg;exact hg
theorem qx1 {y:Bool} {xs:List AV} {K:List AV → Prop} (h:fcL y fcH0 xs K):K xs :=qzg (fun _ _ h => qf1 h) xs K h
theorem qqz {x:AObj} {y:Bool} {i off:Nat} {vs:List AV} {h:Tr AObj} {n:Nat} {K:Tr AObj → Nat → AObj → Prop} (hk:qnx x y i off vs h n K) (he:HEnd h n) :
  ∃ t m ty t' h' n',x = .cells t m ty ∧ off + vs.length ≤ m ∧ TSet t off vs t' ∧ K h' n' (.cells t' m ty) ∧ hv h' = upd (hv h) i (.cells t' m ty) ∧ HEnd h' n' ∧ n ≤ n' :=by
 cases x with
 |cells t m ty =>
  simp only [qnx] at hk
  cases hb:Nat.ble (off + vs.length) m with
  |false => rw [hb] at hk;exact hk.elim
  |true =>
   rw [hb] at hk
   have hb :=Nat.le_of_ble_eq_true hb
   have h3 :=qsw (fcLH (K :=fun vs => fcN y off fun off => setL vs off t fun t => putO h n i (.cells t m ty) fun h n => K h n (.cells t m ty)) hk)
   obtain ⟨t',h4,h5⟩ :=qmg _ _ _ _ h3
   obtain ⟨h',n',h6,h7,h8,h9⟩ :=qfg h4 he
   exact ⟨t,m,ty,t',h',n',rfl,hb,h5,h6,h7,h8,h9⟩
 | _ => exact hk.elim
theorem qej {y:Bool} {s:Nat}:∀ (p:Plan) (h:Tr AObj) (n:Nat) (K:KP),runP p y s h n K → HEnd h n →
  ∃ r R W h' n',EvF s p (hv h) r R W ∧ K r R W h' n' ∧ hv h' = appO (hv h) W ∧ HEnd h' n' ∧ n ≤ n'
 | .ret v,h,n,K,hk,he => ⟨_,_,_,_,_,⟨rfl,rfl,rfl⟩,hk,rfl,he,Nat.le_refl _⟩
 | .skip,h,n,K,hk,he => ⟨_,_,_,_,_,⟨rfl,rfl,rfl⟩,hk,rfl,he,Nat.le_refl _⟩
 | .fail,_,_,_,hk,_ => False.elim hk
 | .chk b k,h,n,K,hk,he => by
  cases b with
  |false => exact False.elim hk
  |true =>
   obtain ⟨r,R,W,h',n',h1,h2⟩ :=qej k h n K hk he
   exact ⟨r,R,W,h',n',⟨rfl,h1⟩,h2⟩
 | .fL xs k,h,n,K,hk,he => qej (k xs) h n K (qx1 (K :=fun xs => runP (k xs) y s h n K) hk) he
 | .get i k,h,n,K,hk,he => by
  have h1 :=qcw (K :=fun i => getO h i fun x => runP (k x) y s h n fun r R W h n => K r (i :: R) W h n) hk
  have h2 :=qip h1
  obtain ⟨r,R,W,h',n',q1,q2⟩ :=qej (k (hv h i)) h n _ h2 he
  exact ⟨r,i :: R,W,h',n',⟨R,rfl,q1⟩,q2⟩
 | .setcs i off vs k,h,n,K,hk,he => by
  have h1 :=qip (qcw (K :=fun i => getO h i fun x => qnx x y i off vs h n fun h n x' => runP k y s h n fun r R W h n => K r (i :: R) ((i,x',bdl vs) :: W) h n) hk)
  obtain ⟨t,m,ty,t',h',n',ho,hb,h5,h6,h7,h8,h9⟩ :=qqz h1 he
  obtain ⟨r,R,W,h'',n'',q1,q2,q3,q4,q5⟩ :=qej k h' n' _ h6 h8
  rw [h7] at q1 q3
  exact ⟨r,i :: R,_,h'',n'',⟨R,W,t,m,ty,t',rfl,ho,hb,h5,rfl,q1⟩,q2,q3,q4,by omega⟩
 | .seto i x rb k,h,n,K,hk,he => by
  have h2 :=qwf (qcw (K :=fun i => fcO y x fun x => putO h n i x fun h n => runP k y s h n fun r R W h n => K r (i :: R) ((i,x,rb) :: W) h n) hk)
  obtain ⟨h',n',h6,h7,h8,h9⟩ :=qfg h2 he
  obtain ⟨r,R,W,h'',n'',q1,q2,q3,q4,q5⟩ :=qej k h' n' _ h6 h8
  rw [h7] at q1 q3
  exact ⟨r,i :: R,_,h'',n'',⟨R,W,rfl,rfl,q1⟩,q2,q3,q4,by omega⟩
 | .newl cs ty k,h,n,K,hk,he => by
  have h2 :=fcLH (K :=fun cs => putL cs 0 .nil fun t => fcN false cs.length fun m => putO h n s (.cells t m ty) fun h n => runP (k s) y s h n fun r R W h n => K r R ((s,.cells t m ty,bdl cs) :: W) h n) hk
  obtain ⟨t,h3,h4⟩ :=putL_ok _ _ _ _ h2
  have h5 :=qcw h3
  obtain ⟨h',n',h6,h7,h8,h9⟩ :=qfg h5 he
  obtain ⟨r,R,W,h'',n'',q1,q2,q3,q4,q5⟩ :=qej (k s) h' n' _ h6 h8
  rw [h7] at q1 q3
  refine ⟨r,R,_,h'',n'',⟨W,t,fun j => ?_,rfl,q1⟩,q2,q3,q4,by omega⟩
  rw [h4]
  by_cases hj:j < cs.length
  ·simp [hj]
  ·simp [hj]
 | .newc m x ty k,h,n,K,hk,he => by
  have h2 :=qf1 (qcw (K :=fun m => fcH0 x fun x => repY y x m fun t => putO h n s (.cells t m ty) fun h n => runP (k s) y s h n fun r R W h n => K r R ((s,.cells t m ty,bd x) :: W) h n) hk)
  obtain ⟨t,h3,h4⟩ :=qw5 h2
  obtain ⟨h',n',h6,h7,h8,h9⟩ :=qfg h3 he
  obtain ⟨r,R,W,h'',n'',q1,q2,q3,q4,q5⟩ :=qej (k s) h' n' _ h6 h8
  rw [h7] at q1 q3
  exact ⟨r,R,_,h'',n'',⟨W,t,h4,rfl,q1⟩,q2,q3,q4,by omega⟩
 | .newo x q k,h,n,K,hk,he => by
  obtain ⟨h',n',h6,h7,h8,h9⟩ :=qfg (qwf (K :=fun x => putO h n s x fun h n => runP (k s) y s h n fun r R W h n => K r R ((s,x,q) :: W) h n) hk) he
  obtain ⟨r,R,W,h'',n'',q1,q2,q3,q4,q5⟩ :=qej (k s) h' n' _ h6 h8
  rw [h7] at q1 q3
  exact ⟨r,R,_,h'',n'',⟨W,rfl,q1⟩,q2,q3,q4,by omega⟩
 | .call f args,h,n,K,hk,he => ⟨_,_,_,_,_,⟨rfl,rfl,rfl⟩,fcLH (K :=fun args => K (.call f args) [] [] h n) (qcw (K :=fun f => fcL0 fcH0 args fun args => K (.call f args) [] [] h n) hk),rfl,he,Nat.le_refl _⟩
 | .yld l args,h,n,K,hk,he => ⟨_,_,_,_,_,⟨rfl,rfl,rfl⟩,fcLH (K :=fun args => K (.yld l args) [] [] h n) (qcw (K :=fun f => fcL0 fcH0 args fun args => K (.yld f args) [] [] h n) hk),rfl,he,Nat.le_refl _⟩
 | .defr f args,h,n,K,hk,he => ⟨_,_,_,_,_,⟨rfl,rfl,rfl⟩,fcLH (K :=fun args => K (.defr f args) [] [] h n) (qcw (K :=fun f => fcL0 fcH0 args fun args => K (.defr f args) [] [] h n) hk),rfl,he,Nat.le_refl _⟩
 | .recover,h,n,K,hk,he => ⟨_,_,_,_,_,⟨rfl,rfl,rfl⟩,hk,rfl,he,Nat.le_refl _⟩
 | .panic v,h,n,K,hk,he => ⟨_,_,_,_,_,⟨rfl,rfl,rfl⟩,qwc (K :=fun v => K (.panic v) [] [] h n) hk,rfl,he,Nat.le_refl _⟩
end
end Go.Abs
/-! Equal values; a table of pure calls. -/
namespace Go.Abs
open Go
noncomputable section
def eqK:IntKind → IntKind → Bool :=fun a b => decide (a = b)
def eqI (a b:Int):Bool :=
 match a with
 | .ofNat n => match b with
  | .ofNat m => Nat.beq n m
  | .negSucc _ => false
 | .negSucc n => match b with
  | .ofNat _ => false
  | .negSucc m => Nat.beq n m
theorem qzn {a b:Int} (h:eqI a b = true):a = b :=by
 cases a <;> cases b <;> simp only [eqI] at h
 ·rw [Nat.eq_of_beq_eq_true h]
 ·cases h
 ·cases h
 ·rw [Nat.eq_of_beq_eq_true h]
def eqB (a b:Bool):Bool :=
 match a with
 |true => b
 |false => match b with
  |true => false
  |false => true
theorem qzo {a b:Bool} (h:eqB a b = true):a = b :=by cases a <;> cases b <;> simp_all [eqB]
def eqS:List UInt8 → List UInt8 → Bool
 | [],ys => match ys with
  | [] => true
  | _ :: _ => false
 |x :: xs,ys => match ys with
  | [] => false
  |y :: ys => match Nat.beq x.toNat y.toNat with
   |true => eqS xs ys
   |false => false
theorem qwh:∀ (a b:List UInt8),eqS a b = true → a = b
 | [],[],_ => rfl
 | [],_ :: _,h => by simp [eqS] at h
 | _ :: _,[],h => by simp [eqS] at h
 |x :: xs,y :: ys,h => by
  simp only [eqS] at h
  split at h
  ·rename_i e
   rw [qwh xs ys h,UInt8.toNat_inj.1 (Nat.eq_of_beq_eq_true e)]
  ·cases h
mutual
def eqA:AV → AV → Bool
 | .int k n,v => match v with
  | .int k' n' => match eqK k k' with
   |true => eqI n n'
   |false => false
  | _ => false
 | .bool b,v => match v with
  | .bool b' => eqB b b'
  | _ => false
 | .str s,v => match v with
  | .str s' => eqS s s'
  | _ => false
 | .nilp,v => match v with
  | .nilp => true
  | _ => false
 | .nils,v => match v with
  | .nils => true
  | _ => false
 | .nili,v => match v with
  | .nili => true
  | _ => false
 | .lst xs n own,v => match v with
  | .lst ys m own' => match own with
   | .no => match own' with
    | .no => match Nat.beq n m with
     |true => eqAs xs ys
     |false => false
    | _ => false
   | .full => match own' with
    | .full => match Nat.beq n m with
     |true => eqAs xs ys
     |false => false
    | _ => false
   | .ch _ => false
  | _ => false
 | .agg xs,v => match v with
  | .agg ys => eqAs xs ys
  | _ => false
 | .tup xs,v => match v with
  | .tup ys => eqAs xs ys
  | _ => false
 | _,_ => false
def eqAs:List AV → List AV → Bool
 | [],ys => match ys with
  | [] => true
  | _ :: _ => false
 |x :: xs,ys => match ys with
  | [] => false
  |y :: ys => match eqA x y with
   |true => eqAs xs ys
   |false => false
end
mutual
theorem qwi:∀ (a b:AV),eqA a b = true → a = b
 | .int k n,b,h => by
  simp only [eqA] at h
  split at h <;> try cases h
  split at h <;> try cases h
  rename_i e
  rw [of_decide_eq_true e,qzn h]
 | .bool x,b,h => by
  simp only [eqA] at h
  split at h <;> try cases h
  rw [qzo h]
 | .str s,b,h => by
  simp only [eqA] at h
  split at h <;> try cases h
  rw [qwh _ _ h]
 | .nilp,b,h => by
  simp only [eqA] at h
  split at h <;> first|rfl | cases h
 | .nils,b,h => by
  simp only [eqA] at h
  split at h <;> first|rfl | cases h
 | .nili,b,h => by
  simp only [eqA] at h
  split at h <;> first|rfl | cases h
 | .lst xs n own,b,h => by
  simp only [eqA] at h
  split at h <;> try cases h
  split at h <;> try cases h
  ·split at h <;> try cases h
   split at h <;> try cases h
   rename_i e
   rw [Nat.eq_of_beq_eq_true e,qg9 _ _ h]
  ·split at h <;> try cases h
   split at h <;> try cases h
   rename_i e
   rw [Nat.eq_of_beq_eq_true e,qg9 _ _ h]
 | .agg xs,b,h => by
  simp only [eqA] at h
  split at h <;> try cases h
  rw [qg9 _ _ h]
 | .tup xs,b,h => by
  simp only [eqA] at h
  split at h <;> try cases h
  rw [qg9 _ _ h]
 | .unk,_,h => by simp [eqA] at h
 | .ptr _ _,_,h => by simp [eqA] at h
 | .lptr _ _,_,h => by simp [eqA] at h
 | .gp _ _,_,h => by simp [eqA] at h
 | .slc _ _ _ _,_,h => by simp [eqA] at h
 | .nilm,_,h => by simp [eqA] at h
 | .map _,_,h => by simp [eqA] at h
 | .nilf,_,h => by simp [eqA] at h
 | .func _ _ _,_,h => by simp [eqA] at h
 | .yld _,_,h => by simp [eqA] at h
 | .iface _ _,_,h => by simp [eqA] at h
theorem qg9:∀ (a b:List AV),eqAs a b = true → a = b
 | [],b,h => by
  simp only [eqAs] at h
  split at h <;> first|rfl | cases h
 |x :: xs,b,h => by
  simp only [eqAs] at h
  split at h <;> try cases h
  split at h <;> try cases h
  rename_i e
  rw [qwi _ _ e,qg9 _ _ h]
end
abbrev Memo :=List (FuncId × List AV × AV)
def qp2:Memo → FuncId → List AV → Option AV
 | [],_,_ => none
 |e :: r,f,args => match Nat.beq e.1 f with
  |true => match eqAs e.2.1 args with
   |true => some e.2.2
   |false => qp2 r f args
  |false => qp2 r f args
def MOK (P:Program) (M:Memo):Prop :=∀ e,e ∈ M → Pure P e.1 e.2.1 e.2.2
theorem qkr {P:Program} {f:FuncId} {args:List AV} {v:AV}:∀ (M:Memo),MOK P M → qp2 M f args = some v → Pure P f args v
 | [],_,h => by simp [qp2] at h
 |e :: r,hm,h => by
  simp only [qp2] at h
  have hr:MOK P r :=fun x hx => hm x (List.mem_cons_of_mem _ hx)
  split at h
  ·rename_i e1
   split at h
   ·rename_i e2
    cases h
    have :=hm e (by simp)
    rw [Nat.eq_of_beq_eq_true e1,qg9 _ _ e2] at this
    exact this
   ·exact qkr r hr h
  ·exact qkr r hr h
end
end Go.Abs

