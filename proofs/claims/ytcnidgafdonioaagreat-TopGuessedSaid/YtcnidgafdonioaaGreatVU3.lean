/-
  Frames, and the rules of control.
-/
import Derived.Test.YtcnidgafdonioaaGreatVU2
import Derived.Defers
import Derived.Orders
/-! Frames, and the rules of control. -/
namespace Go.Abs
open Go
noncomputable section
inductive ADf where
 |call (f:FuncId) (args:List AV)
 |mark (o:Nat)
inductive APm where
 |no
 |ret
 |pan (l:List (AV × Bool))
structure St where
 tm:Tr AV
 df:List ADf
 pm:APm
 rd:Bool
 H:AH
inductive AEx where
 |normal
 |exit (id:Nat)
 |ret
 |panic (l:List (AV × Bool))
def ChainRel (g:Gh) (w:World) (L:Nat → Prop):List (AV × Bool) → List PanicEntry → Prop
 | [],es => es = []
 |(v,b) :: l,es => ∃ e es',es = e :: es' ∧ VRel g w v e.v ∧ Live L v ∧ e.recovered = b ∧ e.goexit = false ∧ ChainRel g w L l es'
def DfRel (g:Gh) (w:World) (L:Nat → Prop):List ADf → List Deferred → Prop
 | [],ds => ds = []
 | .call f args :: l,ds => ∃ d ds',ds = d :: ds' ∧ DRel g w f args d ∧ Lives L args ∧ DfRel g w L l ds'
 | .mark o :: l,ds => ∃ ds',ds = { target :=.collected (g.ob o),args :=#[] } :: ds' ∧ L o ∧ DfRel g w L l ds'
def PmRel (g:Gh) (w:World) (L:Nat → Prop) (pm:APm) (fr:Frame) (cs:List Frame):Prop :=
 match pm with
 | .no => True
 | .ret => fr.kind = .deferred ∧ fr.roundOf = none ∧ ∃ c0 rest,cs = c0 :: rest ∧ c0.mode = .returning
 | .pan l => fr.kind = .deferred ∧ fr.roundOf = none ∧ ∃ c0 rest chain,cs = c0 :: rest ∧ c0.mode = .panicking chain ∧ ChainRel g w L l chain
def CsOk (pm:APm) (cs cs':List Frame):Prop :=
 match pm with
 | .pan _ => ∃ c0 rest m,cs = c0 :: rest ∧ cs' = { c0 with mode :=m } :: rest
 | _ => cs' = cs
structure FrRel (g:Gh) (B:Nat) (w:World) (σ:St) (fr:Frame) (cs:List Frame):Prop where
 h:HRel g B w σ.H
 tm:FRel g w σ.H.L σ.tm fr.tmps
 df:DfRel g w σ.H.L σ.df fr.defers
 pm:PmRel g w σ.H.L σ.pm fr cs
 rd:σ.rd = false → fr.roundOf = none
structure SameFr (fr fr':Frame):Prop where
 fn:fr'.fn = fr.fn
 kind:fr'.kind = fr.kind
 round:fr'.roundOf = fr.roundOf
theorem SameFr.trans {a b c:Frame} (h:SameFr a b) (k:SameFr b c):SameFr a c :=⟨k.fn.trans h.fn,k.kind.trans h.kind,k.round.trans h.round⟩
def tgt:AEx → List Item → Option (List Item)
 | .normal,k => some k
 | .exit id,k => exitTo id k
 | _,_ => some []
def ExOk (g:Gh) (w:World) (L:Nat → Prop) (e:AEx) (fr:Frame) (k:List Item):Prop :=
 match e with
 | .normal => fr.mode = .run ∧ fr.todo = k
 | .exit _ => fr.mode = .run ∧ fr.todo = k
 | .ret => match fr.roundOf with
  |none => fr.mode = .returning
  |some _ => fr.mode = .run ∧ ∃ r,fr.todo = .code .ret :: r
 | .panic l => ∃ chain,fr.mode = .panicking chain ∧ ChainRel g w L l chain
def SemT (P:Program) (B:Nat) (its:List Item) (σ:St) (e:AEx) (σ':St):Prop :=
 ∀ g fr cs w k,FrRel g B w σ fr cs → fr.mode = .run → fr.todo = its ++ k → (e = .ret → True) → ∀ k',tgt e k = some k' →
  ∃ g' fr' cs' w',FrRel g' B w' σ' fr' cs' ∧ Out g B w σ.H g' w' σ'.H ∧ SameFr fr fr' ∧ CsOk σ.pm cs cs' ∧ ((∀ l,σ.pm ≠ .pan l) → ∀ l,σ'.pm ≠ .pan l) ∧ ExOk g' w' σ'.H.L e fr' k' ∧
   Steps P (lone fr cs w) (lone fr' cs' w')
def Sem (P:Program) (B:Nat) (c:Code) (σ:St) (e:AEx) (σ':St):Prop :=SemT P B [.code c] σ e σ'
theorem CsOk.refl (pm:APm) (cs:List Frame) (fr:Frame) {g:Gh} {w:World} {L:Nat → Prop} (h:PmRel g w L pm fr cs):CsOk pm cs cs :=by
 cases pm with
 |pan l =>
  obtain ⟨_,_,c0,rest,chain,e,_,_⟩ :=h
  exact ⟨c0,rest,c0.mode,e,e⟩
 | _ => rfl
theorem CsOk.trans {pm pm':APm} {a b c:List Frame} (h:CsOk pm a b) (k:CsOk pm' b c) (hp:(∀ l,pm ≠ .pan l) → ∀ l,pm' ≠ .pan l):CsOk pm a c :=by
 cases pm with
 |pan l =>
  obtain ⟨c0,rest,m,e1,e2⟩ :=h
  cases pm' with
  |pan l' =>
   obtain ⟨c1,rest',m',e3,e4⟩ :=k
   rw [e2] at e3
   injection e3 with e5 e6
   subst e5;subst e6
   exact ⟨c0,rest,m',e1,e4⟩
  | _ =>
   have k:c = b :=k
   exact ⟨c0,rest,m,e1,k.trans e2⟩
 | _ =>
  have h:b = a :=h
  cases pm' with
  |pan l' => exact absurd rfl (hp (by intro l;simp) l')
  | _ =>
   have k:c = b :=k
   exact k.trans h
section
variable {P:Program} {B:Nat} {σ σ1 σ':St} {e:AEx}
theorem step_go {fr fr':Frame} {cs cs':List Frame} {w w':World}
  (h:(stepG P true { frame :=fr,callers :=cs,status :=.running,dying :=none } w).bare = .go { frame :=fr',callers :=cs',status :=.running,dying :=none } w') :
  Steps P (lone fr cs w) (lone fr' cs' w') :=.one (step_lone_go h)
theorem FrRel.todo {g:Gh} {w:World} {fr:Frame} {cs:List Frame} (h:FrRel g B w σ fr cs) (todo:List Item):FrRel g B w σ { fr with todo :=todo } cs :=
 ⟨h.h,h.tm,h.df,by
  have :=h.pm
  unfold PmRel at *
  split at this <;> simp_all,h.rd⟩
theorem FrRel.mode {g:Gh} {w:World} {fr:Frame} {cs:List Frame} (h:FrRel g B w σ fr cs) (m:FrameMode):FrRel g B w σ { fr with mode :=m } cs :=
 ⟨h.h,h.tm,h.df,by
  have :=h.pm
  unfold PmRel at *
  split at this <;> simp_all,h.rd⟩
theorem SemT.ahead {its its':List Item} (h:SemT P B its' σ e σ') (ht:∀ k,tgt e k = tgt e k)
  (hs:∀ g fr cs w k,FrRel g B w σ fr cs → fr.mode = .run → fr.todo = its ++ k → Steps P (lone fr cs w) (lone { fr with todo :=its' ++ k } cs w)):SemT P B its σ e σ' :=by
 intro g fr cs w k hr hm htd hro k' hk
 have _ :=ht k
 obtain ⟨g',fr',cs',w',h1,h2,h3,h4,h5,h6,h7⟩ :=h g { fr with todo :=its' ++ k } cs w k (hr.todo _) hm rfl hro k' hk
 exact ⟨g',fr',cs',w',h1,h2,⟨h3.fn,h3.kind,h3.round⟩,h4,h5,h6,(hs g fr cs w k hr hm htd).trans h7⟩
theorem SemT.idle {its:List Item} (hs:∀ g fr cs w k,FrRel g B w σ fr cs → fr.mode = .run → fr.todo = its ++ k → Steps P (lone fr cs w) (lone { fr with todo :=k } cs w)):SemT P B its σ .normal σ :=by
 intro g fr cs w k hr hm htd hro k' hk
 simp only [tgt,Option.some.injEq] at hk
 subst hk
 exact ⟨g,{ fr with todo :=k },cs,w,hr.todo _,Out.refl hr.h,⟨rfl,rfl,rfl⟩,CsOk.refl _ _ _ hr.pm,fun h => h,⟨hm,rfl⟩,hs g fr cs w k hr hm htd⟩
theorem Sem.skip:Sem P B .skip σ .normal σ :=
 SemT.idle fun _ fr cs w k _ hm ht => step_go (by
  simp only [List.cons_append,List.nil_append] at ht
  simp [stepG,stepG.exec,hm,ht])
theorem Sem.label {l:Nat}:Sem P B (.label l) σ .normal σ :=
 SemT.idle fun _ fr cs w k _ hm ht => step_go (by
  simp only [List.cons_append,List.nil_append] at ht
  simp [stepG,stepG.exec,hm,ht])
theorem SemT.append {a b:List Item} (h:SemT P B a σ .normal σ1) (k:SemT P B b σ1 e σ'):SemT P B (a ++ b) σ e σ' :=by
 intro g fr cs w kk hr hm ht hro k' hk
 obtain ⟨g1,fr1,cs1,w1,h1,h2,h3,h4,h5,h6,h7⟩ :=h g fr cs w (b ++ kk) hr hm (by rw [ht,List.append_assoc]) (fun e => by cases e) (b ++ kk) rfl
 obtain ⟨g2,fr2,cs2,w2,f1,f2,f3,f4,f5,f6,f7⟩ :=k g1 fr1 cs1 w1 kk h1 h6.1 h6.2 (fun _ => trivial) k' hk
 exact ⟨g2,fr2,cs2,w2,f1,h2.trans f2,h3.trans f3,h4.trans f4 h5,fun hp => f5 (h5 hp),f6,h7.trans f7⟩
def passes (e:AEx) (it:Item):Prop :=e ≠ .normal ∧ ∀ k,tgt e (it :: k) = tgt e k
theorem SemT.pass {a:List Item} {it:Item} (h:SemT P B a σ e σ') (hp:passes e it):SemT P B (a ++ [it]) σ e σ' :=by
 intro g fr cs w k hr hm ht hro k' hk
 obtain ⟨g1,fr1,cs1,w1,h1,h2,h3,h4,h5,h6,h7⟩ :=h g fr cs w (it :: k) hr hm (by rw [ht,List.append_assoc];rfl) hro k' (by rw [hp.2];exact hk)
 exact ⟨g1,fr1,cs1,w1,h1,h2,h3,h4,h5,h6,h7⟩
theorem passes_code (c:Code) (he:e ≠ .normal):passes e (.code c) :=⟨he,fun k => by cases e <;> first | exact absurd rfl he | rfl⟩
theorem passes_inLoop (c:Code) (he:e ≠ .normal):passes e (.inLoop c) :=⟨he,fun k => by cases e <;> first | exact absurd rfl he | rfl⟩
theorem passes_inScope (c:Code) (he:e ≠ .normal):passes e (.inScope c) :=⟨he,fun k => by cases e <;> first | exact absurd rfl he | rfl⟩
theorem passes_inBlock (id:Nat) (he:e ≠ .normal) (hid:e ≠ .exit id):passes e (.inBlock id) :=
  ⟨he,fun k => by
    cases e <;> first
      | exact absurd rfl he
      | rfl
      | (rename_i id'
         simp only [tgt,exitTo]
         rw [if_neg]
         intro e
         exact hid (by rw [beq_iff_eq] at e;rw [e]))⟩
theorem Sem.seq {x y:Code} (h:Sem P B x σ .normal σ1) (k:Sem P B y σ1 e σ'):Sem P B (.seq x y) σ e σ' :=
 SemT.ahead (its' :=[.code x] ++ [.code y]) (SemT.append (a :=[.code x]) h k) (fun _ => rfl) fun _ fr cs w k _ hm ht => step_go (by
  simp only [List.cons_append,List.nil_append] at ht
  simp [stepG,stepG.exec,hm,ht])
theorem Sem.seq_exit {x y:Code} (h:Sem P B x σ e σ') (he:e ≠ .normal):Sem P B (.seq x y) σ e σ' :=
 SemT.ahead (its' :=[.code x] ++ [.code y]) (SemT.pass (a :=[.code x]) h (passes_code y he)) (fun _ => rfl) fun _ fr cs w k _ hm ht => step_go (by
  simp only [List.cons_append,List.nil_append] at ht
  simp [stepG,stepG.exec,hm,ht])
theorem Sem.cond {x y:Code} {c:Operand} {b:Bool} (hc:aev σ.tm c = .bool b) (h:Sem P B (if b then x else y) σ e σ'):Sem P B (.cond c x y) σ e σ' :=
 SemT.ahead (its' :=[.code (if b then x else y)]) h (fun _ => rfl) fun g fr cs w k hr hm ht => step_go (by
  have hv :=hr.tm.ev (a :={ tmps :=fr.tmps,defers :=fr.defers }) hr.h.gl c
  rw [hc] at hv
  simp only [VRel] at hv
  have hv':fr.eval c = .bool b :=by
   rw [← hv]
   cases c <;> rfl
  simp only [List.cons_append,List.nil_append] at ht
  simp [stepG,stepG.exec,hm,ht,hv'])
theorem Sem.block_normal {id:Nat} {c:Code} (h:Sem P B c σ .normal σ'):Sem P B (.block id c) σ .normal σ' :=
 SemT.ahead (its' :=[.code c] ++ [.inBlock id]) (SemT.append (a :=[.code c]) h (SemT.idle fun _ fr cs w k _ hm ht => step_go (by
  simp only [List.cons_append,List.nil_append] at ht
  simp [stepG,stepG.exec,hm,ht]))) (fun _ => rfl) fun _ fr cs w k _ hm ht => step_go (by
  simp only [List.cons_append,List.nil_append] at ht
  simp [stepG,stepG.exec,hm,ht])
theorem Sem.block_pass {id:Nat} {c:Code} (h:Sem P B c σ e σ') (he:e ≠ .normal) (hid:e ≠ .exit id):Sem P B (.block id c) σ e σ' :=
 SemT.ahead (its' :=[.code c] ++ [.inBlock id]) (SemT.pass (a :=[.code c]) h (passes_inBlock id he hid)) (fun _ => rfl) fun _ fr cs w k _ hm ht => step_go (by
  simp only [List.cons_append,List.nil_append] at ht
  simp [stepG,stepG.exec,hm,ht])
theorem Sem.block_exit {id:Nat} {c:Code} (h:Sem P B c σ (.exit id) σ'):Sem P B (.block id c) σ .normal σ' :=by
 refine SemT.ahead (its' :=[.code c] ++ [.inBlock id]) ?_ (fun _ => rfl) fun _ fr cs w k _ hm ht => step_go (by
  simp only [List.cons_append,List.nil_append] at ht
  simp [stepG,stepG.exec,hm,ht])
 intro g fr cs w k hr hm ht hro k' hk
 obtain ⟨g1,fr1,cs1,w1,h1,h2,h3,h4,h5,h6,h7⟩ :=h g fr cs w (.inBlock id :: k) hr hm (by rw [ht,List.append_assoc];rfl) (fun e => by cases e) k' (by
  simp only [tgt,Option.some.injEq] at hk
  subst hk
  simp [tgt,exitTo])
 exact ⟨g1,fr1,cs1,w1,h1,h2,h3,h4,h5,h6,h7⟩
theorem Sem.scope_normal {c:Code} (h:Sem P B c σ .normal σ'):Sem P B (.scope c) σ .normal σ' :=
 SemT.ahead (its' :=[.code c] ++ [.inScope c]) (SemT.append (a :=[.code c]) h (SemT.idle fun _ fr cs w k _ hm ht => step_go (by
  simp only [List.cons_append,List.nil_append] at ht
  simp [stepG,stepG.exec,hm,ht]))) (fun _ => rfl) fun _ fr cs w k _ hm ht => step_go (by
  simp only [List.cons_append,List.nil_append] at ht
  simp [stepG,stepG.exec,hm,ht])
theorem Sem.scope_pass {c:Code} (h:Sem P B c σ e σ') (he:e ≠ .normal):Sem P B (.scope c) σ e σ' :=
 SemT.ahead (its' :=[.code c] ++ [.inScope c]) (SemT.pass (a :=[.code c]) h (passes_inScope c he)) (fun _ => rfl) fun _ fr cs w k _ hm ht => step_go (by
  simp only [List.cons_append,List.nil_append] at ht
  simp [stepG,stepG.exec,hm,ht])
def SemL (P:Program) (B:Nat) (c:Code) (σ:St) (e:AEx) (σ':St):Prop :=SemT P B [.code c,.inLoop c] σ e σ'
theorem SemL.next {c:Code} (h:Sem P B c σ .normal σ1) (k:SemL P B c σ1 e σ'):SemL P B c σ e σ' :=
 SemT.append (a :=[.code c]) (b :=[.inLoop c]) h (SemT.ahead (its' :=[.code c,.inLoop c]) k (fun _ => rfl) fun _ fr cs w k _ hm ht => step_go (by
  simp only [List.cons_append,List.nil_append] at ht
  simp [stepG,stepG.exec,hm,ht]))
theorem SemL.stop {c:Code} (h:Sem P B c σ e σ') (he:e ≠ .normal):SemL P B c σ e σ' :=SemT.pass (a :=[.code c]) h (passes_inLoop c he)
theorem Sem.loop {c:Code} (h:SemL P B c σ e σ'):Sem P B (.loop c) σ e σ' :=
 SemT.ahead (its' :=[.code c,.inLoop c]) h (fun _ => rfl) fun _ fr cs w k _ hm ht => step_go (by
  simp only [List.cons_append,List.nil_append] at ht
  simp [stepG,stepG.exec,hm,ht])
theorem Sem.exit {id:Nat}:Sem P B (.exit id) σ (.exit id) σ :=by
 intro g fr cs w k hr hm ht hro k' hk
 simp only [tgt] at hk
 refine ⟨g,{ fr with todo :=k' },cs,w,hr.todo _,Out.refl hr.h,⟨rfl,rfl,rfl⟩,CsOk.refl _ _ _ hr.pm,fun h => h,⟨hm,rfl⟩,step_go ?_⟩
 simp only [List.cons_append,List.nil_append] at ht
 simp [stepG,stepG.exec,hm,ht,hk]
theorem Sem.ret:Sem P B .ret σ .ret σ :=by
 intro g fr cs w k hr hm ht hro k' hk
 simp only [List.cons_append,List.nil_append] at ht
 cases hc:fr.roundOf with
 |none =>
  refine ⟨g,{ fr with mode :=.returning },cs,w,hr.mode _,Out.refl hr.h,⟨rfl,rfl,rfl⟩,CsOk.refl _ _ _ hr.pm,fun h => h,(by simp [ExOk,hc]),step_go ?_⟩
  simp [stepG,stepG.exec,hm,ht,hc]
 |some l => exact ⟨g,fr,cs,w,hr,Out.refl hr.h,⟨rfl,rfl,rfl⟩,CsOk.refl _ _ _ hr.pm,fun h => h,(by simp [ExOk,hc];exact ⟨hm,_,ht⟩),Steps.refl _ _⟩
end
end
end Go.Abs

/-! Operations within a frame; regions in order. -/
namespace Go.Abs
open Go
noncomputable section
inductive AEnd where
 |ret (v:AV)
 |panic (l:List (AV × Bool))
def EndOk (P:Program) (g:Gh) (w:World) (L:Nat → Prop) (e:AEnd) (fr:Frame):Prop :=
 match e with
 | .ret v => ∃ u,fr.leaving P w (.returned u) ∧ VRel g w v u ∧ Live L v
 | .panic l => ∃ chain,fr.leaving P w (.panicked chain) ∧ ChainRel g w L l chain
def CSem (P:Program) (B:Nat) (f:FuncId) (args:List AV) (H:AH) (e:AEnd) (H':AH):Prop :=
 ∀ g vs cs w,HRel g B w H → VRels g w args vs.toList → Lives H.L args →
  ∃ g' fr' w',Out g B w H g' w' H' ∧ Steps P (lone (Frame.enter P f vs .normal) cs w) (lone fr' cs w') ∧ fr'.fn = f ∧ EndOk P g' w' H'.L e fr'
section
variable {P:Program} {B:Nat} {σ σ1 σ':St} {e:AEx} {T:Tr TypeInfo} {F:Tr Func} {X:XT}
theorem ChainRel.ext {L L':Nat → Prop} {g g':Gh} {w w':World} (hx:Ext L g w g' w') (hl:∀ i,L i → L' i):∀ {l:List (AV × Bool)} {es:List PanicEntry},ChainRel g w L l es → ChainRel g' w' L' l es
 | [],_,h => h
 |(_,_) :: _,_,h => by
  obtain ⟨e,es',e1,h1,h2,h3,h4,h5⟩ :=h
  exact ⟨e,es',e1,h1.ext hx _ _ h2,h2.mono hl,h3,h4,ChainRel.ext hx hl h5⟩
theorem DfRel.ext {L L':Nat → Prop} {g g':Gh} {w w':World} (hx:Ext L g w g' w') (hl:∀ i,L i → L' i):∀ {l:List ADf} {ds:List Deferred},DfRel g w L l ds → DfRel g' w' L' l ds
 | [],_,h => h
 | .call f args :: _,_,h => by
  obtain ⟨d,ds',e1,⟨cap,as,e2,h1⟩,h2,h3⟩ :=h
  exact ⟨d,ds',e1,⟨cap,as,e2,h1.ext hx _ _ h2⟩,h2.mono hl,DfRel.ext hx hl h3⟩
 | .mark o :: _,_,h => by
  obtain ⟨ds',e1,h1,h2⟩ :=h
  exact ⟨ds',by rw [hx.ob o h1];exact e1,hl o h1,DfRel.ext hx hl h2⟩
theorem PmRel.ext {L L':Nat → Prop} {g g':Gh} {w w':World} (hx:Ext L g w g' w') (hl:∀ i,L i → L' i) {pm:APm} {fr:Frame} {cs:List Frame} (h:PmRel g w L pm fr cs):PmRel g' w' L' pm fr cs :=by
 cases pm with
 |no => trivial
 |ret => exact h
 |pan l =>
  obtain ⟨h1,h2,c0,rest,chain,h3,h4,h5⟩ :=h
  exact ⟨h1,h2,c0,rest,chain,h3,h4,h5.ext hx hl⟩
theorem FRel.ext {L L':Nat → Prop} {g g':Gh} {w w':World} (hx:Ext L g w g' w') (hl:∀ i,L i → L' i) {tm:Tr AV} {arr:Array Value} (h:FRel g w L tm arr):FRel g' w' L' tm arr :=
 ⟨fun t a ht => ⟨(h.rel t a ht).1,(h.rel t a ht).2.ext hx _ _ (h.live t a ht)⟩,fun t a ht => (h.live t a ht).mono hl⟩
theorem FrRel.out {g g':Gh} {w w':World} {fr:Frame} {cs:List Frame} {H':AH} (h:FrRel g B w σ fr cs) (ho:Out g B w σ.H g' w' H'):FrRel g' B w' { σ with H :=H' } fr cs :=
 ⟨ho.rel,h.tm.ext ho.ext ho.L,h.df.ext ho.ext ho.L,h.pm.ext ho.ext ho.L,h.rd⟩
theorem FRel.set {L:Nat → Prop} {g:Gh} {w:World} {tm tm':Tr AV} {arr:Array Value} (h:FRel g w L tm arr) {d:Nat} {v:AV} {u:Value} (hd:∃ y,tm.get d = some y)
  (ht:∀ j,tm'.get j = if j = d then some v else tm.get j) (hv:VRel g w v u) (hl:Live L v):FRel g w L tm' (arr.setIfInBounds d u) :=by
 obtain ⟨y,hy⟩ :=hd
 have hlt :=(h.rel d y hy).1
 constructor
 ·intro t a ha
  rw [ht] at ha
  by_cases e:t = d
  ·subst e
   rw [if_pos rfl] at ha
   cases ha
   refine ⟨by simpa using hlt,?_⟩
   rw [Array.getD_eq_getD_getElem?,Array.getElem?_setIfInBounds_self_of_lt hlt]
   exact hv
  ·rw [if_neg e] at ha
   obtain ⟨h1,h2⟩ :=h.rel t a ha
   refine ⟨by simpa using h1,?_⟩
   rw [Array.getD_eq_getD_getElem?,Array.getElem?_setIfInBounds_ne (by omega),← Array.getD_eq_getD_getElem?]
   exact h2
 ·intro t a ha
  rw [ht] at ha
  by_cases e:t = d
  ·rw [if_pos e] at ha;cases ha;exact hl
  ·rw [if_neg e] at ha;exact h.live t a ha
def SetD (tm:Tr AV) (dst:Option Tmp) (v:AV) (tm':Tr AV):Prop :=
 match dst with
 |none => tm' = tm
 |some d => (∃ y,tm.get d = some y) ∧ ∀ j,tm'.get j = if j = d then some v else tm.get j
theorem finish_region {fr:Frame} {ops:Array Oper} {i:Nat} {rest:List Nat} {k:List Item} (ht:fr.todo = .inRegion ops (i :: rest) :: k) {o:Oper} (ho:ops[i]? = some o) (v:Value) :
  fr.finish v = { fr with tmps :=(match o.dst with | some d => fr.tmps.setIfInBounds d v | none => fr.tmps),todo :=.inRegion ops rest :: k } :=by
 unfold Frame.finish
 rw [ht]
 simp only [ho,Option.bind_some]
 cases o.dst <;> rfl
theorem FrRel.finish {g:Gh} {w:World} {fr:Frame} {cs:List Frame} (h:FrRel g B w σ fr cs) {ops:Array Oper} {i:Nat} {rest:List Nat} {k:List Item}
  (ht:fr.todo = .inRegion ops (i :: rest) :: k) {o:Oper} (ho:ops[i]? = some o) {v:AV} {u:Value} (hv:VRel g w v u) (hl:Live σ.H.L v) {tm':Tr AV} (hs:SetD σ.tm o.dst v tm') :
  FrRel g B w { σ with tm :=tm' } (fr.finish u) cs :=by
 rw [finish_region ht ho]
 refine ⟨h.h,?_,h.df,?_,h.rd⟩
 ·cases hd:o.dst with
  |none =>
   rw [hd] at hs
   have hs:tm' = σ.tm :=hs
   rw [hs];exact h.tm
  |some d =>
   rw [hd] at hs
   exact h.tm.set hs.1 hs.2 hv hl
 ·have :=h.pm
  unfold PmRel at *
  split at this <;> simp_all
def OpS (P:Program) (B:Nat) (ops:Array Oper) (i:Nat) (σ:St) (e:AEx) (σ':St):Prop :=
 ∀ g fr cs w rest k,FrRel g B w σ fr cs → fr.mode = .run → fr.todo = .inRegion ops (i :: rest) :: k →
  ∃ g' fr' cs' w',FrRel g' B w' σ' fr' cs' ∧ Out g B w σ.H g' w' σ'.H ∧ SameFr fr fr' ∧ CsOk σ.pm cs cs' ∧ ((∀ l,σ.pm ≠ .pan l) → ∀ l,σ'.pm ≠ .pan l) ∧
   (match e with
    | .normal => fr'.mode = .run ∧ fr'.todo = .inRegion ops rest :: k
    | .panic l => ∃ chain,fr'.mode = .panicking chain ∧ ChainRel g' w' σ'.H.L l chain
    | _ => False) ∧ Steps P (lone fr cs w) (lone fr' cs' w')
def guardM (ops:Array Oper) (tm:Tr AV) (o:Oper):Option Bool :=
 match o.guard with
 |none => some true
 |some (j,want) => match ops[j]? with
  |some oj => match oj.dst with
   |some d => match tm.get d with
    |some (.bool b) => some (b == want)
    |some (.tup _) => some false
    | _ => none
   |none => none
  |none => none
def guardV (want:Bool) (x:AV):Option Bool :=
 match x with
 | .bool b => some (@Bool.rec (fun _ => Bool) (@Bool.rec (fun _ => Bool) true false want) want b)
 | .tup _ => some false
 | _ => none
def guardJ (p:Nat × Bool) (ops:Array Oper) (tm:Tr AV):Option Bool :=
 @Option.rec Oper (fun _ => Option Bool) none (fun oj => @Option.rec Tmp (fun _ => Option Bool) none (fun d => @Option.rec AV (fun _ => Option Bool) none (fun x => guardV p.2 x) (tm.get d)) oj.dst) (ops.toList[p.1]?)
def guardA (ops:Array Oper) (tm:Tr AV) (o:Oper):Option Bool :=
 @Option.rec (Nat × Bool) (fun _ => Option Bool) (some true) (fun p => guardJ p ops tm) o.guard
theorem guardA_eq (ops:Array Oper) (tm:Tr AV) (o:Oper):guardA ops tm o = guardM ops tm o :=by
 unfold guardA guardM
 cases o.guard with
 |none => rfl
 |some p =>
  obtain ⟨j,want⟩ :=p
  simp only [guardJ,Array.getElem?_toList]
  cases ops[j]? with
  |none => rfl
  |some oj =>
   simp only
   cases oj.dst with
   |none => rfl
   |some d =>
    simp only
    cases tm.get d with
    |none => rfl
    |some x =>
     simp only
     cases x <;> first
      |rfl
      |(rename_i b;cases b <;> cases want <;> rfl)
theorem guardA_ok {g:Gh} {w:World} {L:Nat → Prop} {ops:Array Oper} {tm:Tr AV} {arr:Array Value} (h:FRel g w L tm arr) {o:Oper} {b:Bool} (hg:guardA ops tm o = some b) :
  Region.wanted o (yielded ops arr) = b :=by
 rw [guardA_eq] at hg
 unfold guardM at hg
 unfold Region.wanted
 split at hg
 ·rename_i e
  simp only [Option.some.injEq] at hg
  rw [e,hg]
 ·rename_i j want e
  rw [e]
  split at hg <;> try cases hg
  rename_i oj hoj
  split at hg <;> try cases hg
  rename_i d hd
  split at hg
  ·rename_i b' hb
   cases hg
   obtain ⟨h1,h2⟩ :=h.rel d _ hb
   simp only [VRel] at h2
   have h3:arr[d]? = some (.bool b') :=by
    rw [Array.getD_eq_getD_getElem?,Array.getElem?_eq_getElem h1] at h2
    simp only [Option.getD_some] at h2
    rw [Array.getElem?_eq_getElem h1,h2]
   simp [yielded,hoj,hd,h3]
  ·rename_i l hb
   cases hg
   obtain ⟨h1,h2⟩ :=h.rel d _ hb
   obtain ⟨vs,h2,_⟩ :=h2
   have h3:arr[d]? = some (.tuple vs) :=by
    rw [Array.getD_eq_getD_getElem?,Array.getElem?_eq_getElem h1] at h2
    simp only [Option.getD_some] at h2
    rw [Array.getElem?_eq_getElem h1,h2]
   simp [yielded,hoj,hd,h3]
  ·cases hg
theorem stepG_skip {fr:Frame} {cs:List Frame} {w:World} {ops:Array Oper} {i:Nat} {rest:List Nat} {k:List Item} {o:Oper} (hm:fr.mode = .run) (ht:fr.todo = .inRegion ops (i :: rest) :: k)
  (ho:ops[i]? = some o) (hw:Region.wanted o (yielded ops fr.tmps) = false):Steps P (lone fr cs w) (lone (fr.finish undef) cs w) :=
 step_go (by simp [stepG,stepG.exec,hm,ht,ho,hw])
theorem stepG_oper {fr:Frame} {cs:List Frame} {w:World} {ops:Array Oper} {i:Nat} {rest:List Nat} {k:List Item} {o:Oper} (hm:fr.mode = .run) (ht:fr.todo = .inRegion ops (i :: rest) :: k)
  (ho:ops[i]? = some o) (hw:Region.wanted o (yielded ops fr.tmps) = true) (hd:fr.roundOf = none ∨ ∀ c,o.op ≠ .defer c) :
  stepG P true { frame :=fr,callers :=cs,status :=.running,dying :=none } w = stepG.apply P true fr cs none (execOp fr.eval o) w :=by
 have h1:fr.oper? = some o :=by simp [Frame.oper?,ht,ho]
 simp only [stepG,hm,stepG.exec,ht,ho,Option.map_some,hw,Option.getD_some,if_true,stepG.oper,h1]
 rcases hd with hd | hd
 ·simp [hd]
 ·cases hr:fr.roundOf with
  |none => rfl
  |some l =>
   split
   ·rename_i e1 e2
    exact absurd e2 (hd _)
   ·rfl
theorem OpS.skip {ops:Array Oper} {i:Nat} {o:Oper} (ho:ops[i]? = some o) (hg:guardA ops σ.tm o = some false) {tm':Tr AV} (hs:SetD σ.tm o.dst (.tup []) tm'):OpS P B ops i σ .normal { σ with tm :=tm' } :=by
 intro g fr cs w rest k hr hm ht
 have hu:VRel g w (.tup []) undef :=by simp only [VRel];exact ⟨#[],rfl,by simp [VRels]⟩
 refine ⟨g,fr.finish undef,cs,w,hr.finish ht ho hu trivial hs,Out.refl hr.h,?_,CsOk.refl _ _ _ hr.pm,fun h => h,?_,stepG_skip hm ht ho (guardA_ok hr.tm hg)⟩
 ·rw [finish_region ht ho];exact ⟨rfl,rfl,rfl⟩
 ·rw [finish_region ht ho];exact ⟨hm,rfl⟩
theorem opCtx (hT:TOK P T) (hF:FOK P F) {g:Gh} {w:World} {fr:Frame} {cs:List Frame} (hr:FrRel g B w σ fr cs) {s:Nat} (hs:σ.H.o s = .hole) :
  OCtx P T F g B w σ.H s (aev σ.tm) fr.eval :=
 ⟨hT,hF,hr.h,hs,fun x => by
  have :=hr.tm.ev (a :={ tmps :=fr.tmps,defers :=fr.defers }) hr.h.gl x
  cases x <;> exact this,fun x => hr.tm.evl x⟩
theorem isDefer_of {o:Oper} {s:Nat} {ho:Nat → AObj} {r:PRes} {R:List Nat} {W:WL} {ev:Operand → AV} (h:EvF s (pOp P T F X ev o) ho r R W) (hr:∀ f args,r ≠ .defr f args):∀ c,o.op ≠ .defer c :=by
 intro c hc
 rw [pOp_eq] at h
 unfold pOpM at h
 rw [hc] at h
 simp only at h
 split at h
 ·unfold pDefer at h
  split at h <;> try exact h.elim
  split at h <;> try exact h.elim
  exact hr _ _ h.1
 ·exact h.elim
theorem OpS.val (hT:TOK P T) (hF:FOK P F) (hX:XOK P X) {ops:Array Oper} {i s:Nat} {o:Oper} (ho:ops[i]? = some o) (hg:guardA ops σ.tm o = some true) (hsl:σ.H.o s = .hole) {v:AV} {R:List Nat} {W:WL}
  (hev:EvF s (pOp P T F X (aev σ.tm) o) σ.H.o (.val v) R W) {tm':Tr AV} (hs:SetD σ.tm o.dst v tm'):OpS P B ops i σ .normal { σ with tm :=tm',H :=σ.H.app W } :=by
 intro g fr cs w rest k hr hm ht
 obtain ⟨u,g',w',h1,h2,h3,h4⟩ :=pOp_ok (opCtx hT hF hr hsl) hX hev
 have hst :=stepG_oper (P :=P) (cs :=cs) (w :=w) hm ht ho (guardA_ok hr.tm hg) (.inr (isDefer_of hev (by intro f args e;cases e)))
 have hr' :=hr.out h2
 refine ⟨g',fr.finish u,cs,w',hr'.finish ht ho h3 h4 hs,h2,?_,CsOk.refl _ _ _ hr.pm,fun h => h,?_,step_go ?_⟩
 ·rw [finish_region ht ho];exact ⟨rfl,rfl,rfl⟩
 ·rw [finish_region ht ho];exact ⟨hm,rfl⟩
 ·rw [hst];simp [stepG.apply,h1]
theorem OpS.none (hT:TOK P T) (hF:FOK P F) (hX:XOK P X) {ops:Array Oper} {i s:Nat} {o:Oper} (ho:ops[i]? = some o) (hg:guardA ops σ.tm o = some true) (hsl:σ.H.o s = .hole) {R:List Nat} {W:WL}
  (hev:EvF s (pOp P T F X (aev σ.tm) o) σ.H.o .skip R W) {tm':Tr AV} (hs:SetD σ.tm o.dst (.tup []) tm'):OpS P B ops i σ .normal { σ with tm :=tm',H :=σ.H.app W } :=by
 intro g fr cs w rest k hr hm ht
 obtain ⟨g',w',h1,h2⟩ :=pOp_ok (opCtx hT hF hr hsl) hX hev
 have hst :=stepG_oper (P :=P) (cs :=cs) (w :=w) hm ht ho (guardA_ok hr.tm hg) (.inr (isDefer_of hev (by intro f args e;cases e)))
 have hr' :=hr.out h2
 have hu:VRel g' w' (.tup []) undef :=by simp only [VRel];exact ⟨#[],rfl,by simp [VRels]⟩
 refine ⟨g',fr.finish undef,cs,w',hr'.finish ht ho hu trivial hs,h2,?_,CsOk.refl _ _ _ hr.pm,fun h => h,?_,step_go ?_⟩
 ·rw [finish_region ht ho];exact ⟨rfl,rfl,rfl⟩
 ·rw [finish_region ht ho];exact ⟨hm,rfl⟩
 ·rw [hst];simp [stepG.apply,h1]
theorem OpS.call (hT:TOK P T) (hF:FOK P F) (hX:XOK P X) {ops:Array Oper} {i s:Nat} {o:Oper} (ho:ops[i]? = some o) (hg:guardA ops σ.tm o = some true) (hsl:σ.H.o s = .hole) {f:FuncId} {args:List AV} {R:List Nat} {W:WL}
  (hev:EvF s (pOp P T F X (aev σ.tm) o) σ.H.o (.call f args) R W) {v:AV} {H':AH} (hc:CSem P B f args σ.H (.ret v) H') {tm':Tr AV} (hs:SetD σ.tm o.dst v tm') :
  OpS P B ops i σ .normal { σ with tm :=tm',H :=H' } :=by
 intro g fr cs w rest k hr hm ht
 obtain ⟨rfl,vs,h1,h2,h3⟩ :=pOp_ok (opCtx hT hF hr hsl) hX hev
 have hst :=stepG_oper (P :=P) (cs :=cs) (w :=w) hm ht ho (guardA_ok hr.tm hg) (.inr (isDefer_of hev (by intro f args e;cases e)))
 obtain ⟨g',fr',w',k1,k2,k3,u,k4,k5,k6⟩ :=hc g vs (fr :: cs) w hr.h h2 h3
 have hr' :=hr.out k1
 refine ⟨g',fr.finish u,cs,w',hr'.finish ht ho k5 k6 hs,k1,?_,CsOk.refl _ _ _ hr.pm,fun h => h,?_,?_⟩
 ·rw [finish_region ht ho];exact ⟨rfl,rfl,rfl⟩
 ·rw [finish_region ht ho];exact ⟨hm,rfl⟩
 ·refine Steps.trans (step_go (fr' :=Frame.enter P f vs .normal) (cs' :=fr :: cs) (w' :=w) ?_) (Steps.trans k2 (.one (step_leave_returned k4)))
  rw [hst];simp [stepG.apply,h1,ht]
theorem OpS.callPanic (hT:TOK P T) (hF:FOK P F) (hX:XOK P X) {ops:Array Oper} {i s:Nat} {o:Oper} (ho:ops[i]? = some o) (hg:guardA ops σ.tm o = some true) (hsl:σ.H.o s = .hole) {f:FuncId} {args:List AV} {R:List Nat} {W:WL}
  (hev:EvF s (pOp P T F X (aev σ.tm) o) σ.H.o (.call f args) R W) {l:List (AV × Bool)} {H':AH} (hc:CSem P B f args σ.H (.panic l) H') :
  OpS P B ops i σ (.panic l) { σ with H :=H' } :=by
 intro g fr cs w rest k hr hm ht
 obtain ⟨rfl,vs,h1,h2,h3⟩ :=pOp_ok (opCtx hT hF hr hsl) hX hev
 have hst :=stepG_oper (P :=P) (cs :=cs) (w :=w) hm ht ho (guardA_ok hr.tm hg) (.inr (isDefer_of hev (by intro f args e;cases e)))
 obtain ⟨g',fr',w',k1,k2,k3,chain,k4,k5⟩ :=hc g vs (fr :: cs) w hr.h h2 h3
 have hr' :=hr.out k1
 have hraise:fr.raise chain = { fr with mode :=.panicking chain } :=by simp [Frame.raise,hm]
 refine ⟨g',fr.raise chain,cs,w',by rw [hraise];exact hr'.mode _,k1,by rw [hraise];exact ⟨rfl,rfl,rfl⟩,CsOk.refl _ _ _ hr.pm,fun h => h,⟨chain,by rw [hraise],k5⟩,?_⟩
 refine Steps.trans (step_go (fr' :=Frame.enter P f vs .normal) (cs' :=fr :: cs) (w' :=w) ?_) (Steps.trans k2 (.one (step_leave_panicked k4)))
 rw [hst];simp [stepG.apply,h1,ht]
theorem OpS.panic (hT:TOK P T) (hF:FOK P F) (hX:XOK P X) {ops:Array Oper} {i s:Nat} {o:Oper} (ho:ops[i]? = some o) (hg:guardA ops σ.tm o = some true) (hsl:σ.H.o s = .hole) {v:AV} {R:List Nat} {W:WL}
  (hev:EvF s (pOp P T F X (aev σ.tm) o) σ.H.o (.panic v) R W):OpS P B ops i σ (.panic [(v,false)]) σ :=by
 intro g fr cs w rest k hr hm ht
 obtain ⟨rfl,u,h1,h2,h3⟩ :=pOp_ok (opCtx hT hF hr hsl) hX hev
 have hst :=stepG_oper (P :=P) (cs :=cs) (w :=w) hm ht ho (guardA_ok hr.tm hg) (.inr (isDefer_of hev (by intro f args e;cases e)))
 have hraise:fr.raise [{ v :=u,recovered :=false }] = { fr with mode :=.panicking [{ v :=u,recovered :=false }] } :=by simp [Frame.raise,hm]
 refine ⟨g,fr.raise [{ v :=u,recovered :=false }],cs,w,by rw [hraise];exact hr.mode _,Out.refl hr.h,by rw [hraise];exact ⟨rfl,rfl,rfl⟩,CsOk.refl _ _ _ hr.pm,fun h => h,
  ⟨[{ v :=u,recovered :=false }],by rw [hraise],?_⟩,?_⟩
 ·simp only [ChainRel]
  exact ⟨_,_,rfl,h2,h3,rfl,rfl,rfl⟩
 ·refine step_go ?_
  rw [hst];simp [stepG.apply,h1]
theorem OpS.defr (hT:TOK P T) (hF:FOK P F) (hX:XOK P X) {ops:Array Oper} {i s:Nat} {o:Oper} (ho:ops[i]? = some o) (hg:guardA ops σ.tm o = some true) (hsl:σ.H.o s = .hole) (hrd:σ.rd = false) {f:FuncId} {args:List AV} {R:List Nat} {W:WL}
  (hev:EvF s (pOp P T F X (aev σ.tm) o) σ.H.o (.defr f args) R W) {tm':Tr AV} (hs:SetD σ.tm o.dst (.tup []) tm'):OpS P B ops i σ .normal { σ with tm :=tm',df :=.call f args :: σ.df } :=by
 intro g fr cs w rest k hr hm ht
 obtain ⟨rfl,d,h1,h2,h3⟩ :=pOp_ok (opCtx hT hF hr hsl) hX hev
 have hst :=stepG_oper (P :=P) (cs :=cs) (w :=w) hm ht ho (guardA_ok hr.tm hg) (.inl (hr.rd hrd))
 have hr':FrRel g B w { σ with df :=.call f args :: σ.df } { fr with defers :=d :: fr.defers } cs :=⟨hr.h,hr.tm,⟨d,_,rfl,h2,h3,hr.df⟩,by
  have :=hr.pm
  unfold PmRel at *
  split at this <;> simp_all,hr.rd⟩
 have ht':({ fr with defers :=d :: fr.defers }:Frame).todo = .inRegion ops (i :: rest) :: k :=ht
 have hu:VRel g w (.tup []) undef :=by simp only [VRel];exact ⟨#[],rfl,by simp [VRels]⟩
 refine ⟨g,({ fr with defers :=d :: fr.defers }:Frame).finish undef,cs,w,hr'.finish ht' ho hu trivial hs,Out.refl hr.h,?_,CsOk.refl _ _ _ hr.pm,fun h => h,?_,step_go ?_⟩
 ·rw [finish_region ht' ho];exact ⟨rfl,rfl,rfl⟩
 ·rw [finish_region ht' ho];exact ⟨hm,rfl⟩
 ·rw [hst];simp [stepG.apply,h1]
theorem SemT.region_nil {ops:Array Oper}:SemT P B [.inRegion ops []] σ .normal σ :=
 SemT.idle fun _ fr cs w k _ hm ht => step_go (by
  simp only [List.cons_append,List.nil_append] at ht
  simp [stepG,stepG.exec,hm,ht])
theorem SemT.region_cons {ops:Array Oper} {i:Nat} {rest:List Nat} (h:OpS P B ops i σ .normal σ1) (k:SemT P B [.inRegion ops rest] σ1 e σ'):SemT P B [.inRegion ops (i :: rest)] σ e σ' :=by
 intro g fr cs w kk hr hm ht hro k' hk
 obtain ⟨g1,fr1,cs1,w1,h1,h2,h3,h4,h5,h6,h7⟩ :=h g fr cs w rest kk hr hm (by simpa using ht)
 obtain ⟨g2,fr2,cs2,w2,f1,f2,f3,f4,f5,f6,f7⟩ :=k g1 fr1 cs1 w1 kk h1 h6.1 (by simpa using h6.2) (fun _ => trivial) k' hk
 exact ⟨g2,fr2,cs2,w2,f1,h2.trans f2,h3.trans f3,h4.trans f4 h5,fun hp => f5 (h5 hp),f6,h7.trans f7⟩
theorem SemT.region_panic {ops:Array Oper} {i:Nat} {rest:List Nat} {l:List (AV × Bool)} (h:OpS P B ops i σ (.panic l) σ'):SemT P B [.inRegion ops (i :: rest)] σ (.panic l) σ' :=by
 intro g fr cs w kk hr hm ht hro k' hk
 obtain ⟨g1,fr1,cs1,w1,h1,h2,h3,h4,h5,h6,h7⟩ :=h g fr cs w rest kk hr hm (by simpa using ht)
 exact ⟨g1,fr1,cs1,w1,h1,h2,h3,h4,h5,h6,h7⟩
theorem Sem.region {id:Nat} {ops:Array Oper} (h:SemT P B [.inRegion ops (List.range ops.size)] σ e σ'):Sem P B (.region id ops false) σ e σ' :=
 SemT.ahead (its' :=[.inRegion ops (List.range ops.size)]) h (fun _ => rfl) fun _ fr cs w k _ hm ht => step_go (by
  simp only [List.cons_append,List.nil_append] at ht
  simp [stepG,stepG.exec,hm,ht])
end
end
end Go.Abs

/-! Functions: their bodies, deferred calls, results. -/
namespace Go.Abs
open Go
noncomputable section
section
variable {P:Program} {B:Nat} {σ σ1 σ':St} {T:Tr TypeInfo} {F:Tr Func} {X:XT}
theorem pLoad_run (hT:TOK P T) {g:Gh} {w:World} {H:AH} (hr:HRel g B w H) {s:Nat} {t:TypeId} {av v:AV} {u:Value} {R:List Nat} {W:WL} (h:EvF s (pLoad T t av) H.o (.val v) R W)
  (hu:VRel g w av u) (hl:Live H.L av):∃ a x,u = .pointer (some a) ∧ (loadVar t a).run P w = .ok x w ∧ VRel g w v x ∧ Live H.L v :=by
 unfold pLoad at h
 split at h
 ·rename_i hag
  have hag' :=aggT_ok hT hag w
  split at h <;> try exact h.elim
  rename_i i hi
  have hsz :=run_sizeOf_ok hT hi w
  split at h
  ·rename_i o off
   simp only [VRel] at hu
   obtain ⟨R',_,h⟩ :=h
   simp only at h
   split at h <;> try exact h.elim
   rename_i tr n ty ho
   obtain ⟨hb,h⟩ :=h
   split at h <;> try exact h.elim
   rename_i l hln
   obtain ⟨e,_⟩ :=evF_ret h
   cases e
   obtain ⟨h1,h2⟩ :=loadN_ok hln
   obtain ⟨cs,e1,e2,e3,e4⟩ :=hr.cellsAt ho (by simpa using hb) h1 h2
   have :=run_loadCells_list (P :=P) w ⟨g.ob o,off,none⟩ cs e2
   rw [e1] at this
   refine ⟨_,.agg cs.toArray,hu,by simp [loadVar,hag',hsz,this],?_,e4⟩
   simp only [VRel]
   exact ⟨_,rfl,by simpa using e3⟩
  ·rename_i xs off
   simp only [VRel] at hu
   obtain ⟨b,o0,hv,hb,hrr⟩ :=hu
   split at h <;> try exact h.elim
   rename_i l hln
   obtain ⟨e,_⟩ :=evF_ret h
   cases e
   obtain ⟨h1,h2⟩ :=takeN_eq hln
   rw [dropN_eq] at h1
   obtain ⟨cs,e1,e2,e3⟩ :=hrr.piece h1 h2
   have :=run_loadCells_list (P :=P) w ⟨b,o0 + off,none⟩ cs e2
   rw [e1] at this
   refine ⟨_,.agg cs.toArray,hv,by simp [loadVar,hag',hsz,this],?_,?_⟩
   ·simp only [VRel]
    exact ⟨_,rfl,by simpa using e3⟩
   ·rw [h1]
    exact (Lives.drop hl off).take _
  ·exact h.elim
 ·rename_i hag
  have hag' :=aggT_ok hT hag w
  split at h
  ·rename_i o off
   simp only [VRel] at hu
   obtain ⟨R',_,h⟩ :=h
   simp only at h
   split at h <;> try exact h.elim
   rename_i tr n ty ho
   obtain ⟨hb,h⟩ :=h
   split at h <;> try exact h.elim
   rename_i a ha
   obtain ⟨e,_⟩ :=evF_ret h
   cases e
   obtain ⟨a',x,e1,e2,e3,e4⟩ :=hr.cellAt ho (j :=off) (by simpa using hb)
   rw [ha] at e1
   injection e1 with e1
   subst e1
   exact ⟨_,x,hu,by simp [loadVar,hag',e2],e3,e4⟩
  ·rename_i xs off
   simp only [VRel] at hu
   obtain ⟨b,o0,hv,hb,hrr⟩ :=hu
   split at h <;> try exact h.elim
   rename_i a ha
   obtain ⟨e,_⟩ :=evF_ret h
   cases e
   rw [nth_eq] at ha
   obtain ⟨x,e2,e3⟩ :=hrr.get xs o0 off v ha
   exact ⟨_,x,hv,by simp [loadVar,hag',e2],e3,Lives.mem xs v hl (List.mem_of_getElem? ha)⟩
  ·exact h.elim
 ·exact h.elim
def oneRes (arr:Array Value):ResultVar → Go.Sem Value
 | .tmp t => pure (arr.getD t undef)
 | .cell a t => do loadVar t (← asAddr (arr.getD a undef))
theorem results_eq (fn:Func) (arr:Array Value):Go.results fn arr = (fn.results.mapM (oneRes arr)) >>= fun vs => pure (if h:vs.size = 1 then vs[0] else .tuple vs) :=by
 unfold Go.results
 congr 1
def ResV (T:Tr TypeInfo) (tm:Tr AV) (o:Nat → AObj):List ResultVar → List AV → Prop
 | [],vs => vs = []
 | .tmp t :: rs,vs => ∃ vs',vs = aev tm (.tmp t) :: vs' ∧ ResV T tm o rs vs'
 | .cell a t :: rs,vs => ∃ v vs' R W,vs = v :: vs' ∧ EvF 0 (pLoad T t (aev tm (.tmp a))) o (.val v) R W ∧ ResV T tm o rs vs'
def oneOrTup:List AV → AV
 | [v] => v
 |vs => .tup vs
theorem ResV.run (hT:TOK P T) {g:Gh} {w:World} {H:AH} (hr:HRel g B w H) {tm:Tr AV} {arr:Array Value} (hf:FRel g w H.L tm arr):∀ (rs:List ResultVar) (vs:List AV),ResV T tm H.o rs vs →
  ∃ us,(rs.mapM (oneRes arr)).run P w = .ok us w ∧ VRels g w vs us ∧ Lives H.L vs
 | [],vs,h => by
  simp only [ResV] at h
  subst h
  exact ⟨[],by simp,by simp [VRels],trivial⟩
 | .tmp t :: rs,vs,h => by
  obtain ⟨vs',e,h⟩ :=h
  subst e
  obtain ⟨us,h1,h2,h3⟩ :=ResV.run hT hr hf rs vs' h
  have hv :=hf.ev (a :={ tmps :=arr,defers :=[] }) hr.gl (.tmp t)
  refine ⟨arr.getD t undef :: us,?_,?_,hf.evl _,h3⟩
  ·rw [List.mapM_cons]
   simp only [oneRes,Go.Sem.run_bind,Go.Sem.run_pure,Result.andThen_ok,h1]
  ·simp only [VRels]
   exact ⟨_,_,rfl,hv,h2⟩
 | .cell a t :: rs,vs,h => by
  obtain ⟨v,vs',R,W,e,hl,h⟩ :=h
  subst e
  obtain ⟨us,h1,h2,h3⟩ :=ResV.run hT hr hf rs vs' h
  have hv :=hf.ev (a :={ tmps :=arr,defers :=[] }) hr.gl (.tmp a)
  obtain ⟨ad,x,e1,e2,e3,e4⟩ :=pLoad_run hT hr hl hv (hf.evl _)
  have e1:arr.getD a undef = .pointer (some ad) :=e1
  refine ⟨x :: us,?_,?_,e4,h3⟩
  ·rw [List.mapM_cons]
   have:(oneRes arr (.cell a t)).run P w = .ok x w :=by
    simp only [oneRes,e1,asAddr,Go.Sem.run_bind,Go.Sem.run_pure,Result.andThen_ok,e2]
   simp only [Go.Sem.run_bind,this,Go.Sem.run_pure,Result.andThen_ok,h1]
  ·simp only [VRels]
   exact ⟨_,_,rfl,e3,h2⟩
theorem ResV.results (hT:TOK P T) {g:Gh} {w:World} {H:AH} (hr:HRel g B w H) {tm:Tr AV} {arr:Array Value} (hf:FRel g w H.L tm arr) {fn:Func} {vs:List AV} (h:ResV T tm H.o fn.results.toList vs) :
  ∃ u,(Go.results fn arr).run P w = .ok u w ∧ VRel g w (oneOrTup vs) u ∧ Live H.L (oneOrTup vs) :=by
 obtain ⟨us,h1,h2,h3⟩ :=ResV.run hT hr hf _ _ h
 have hrun:(fn.results.mapM (oneRes arr)).run P w = .ok us.toArray w :=by
  rw [Array.mapM_eq_mapM_toList]
  have:∀ (m:Go.Sem (List Value)),m.run P w = .ok us w → (List.toArray <$> m).run P w = .ok us.toArray w :=fun m hm => by
   show (Go.Sem.bind m fun l => Go.Sem.pure l.toArray).run P w = _
   have hb :=Go.Sem.run_bind (P :=P) (w :=w) m (fun l => Go.Sem.pure l.toArray)
   exact hb.trans (by rw [hm];rfl)
  exact this _ h1
 have hlen :=h2.length
 rw [results_eq]
 simp only [Go.Sem.run_bind]
 rw [hrun]
 simp only [Result.andThen_ok,Go.Sem.run_pure]
 cases vs with
 |nil =>
  simp only [VRels] at h2
  subst h2
  refine ⟨.tuple #[],by simp,?_,h3⟩
  simp only [oneOrTup,VRel]
  exact ⟨_,rfl,by simp [VRels]⟩
 |cons v vs =>
  cases vs with
  |nil =>
   obtain ⟨u,us',e,k1,k2⟩ :=h2
   simp only [VRels] at k2
   subst k2;subst e
   exact ⟨u,by simp,k1,h3.1⟩
  |cons v' vs =>
   refine ⟨.tuple us.toArray,?_,?_,h3⟩
   ·have:¬ us.toArray.size = 1 :=by simp [hlen]
    simp [hlen]
   ·simp only [oneOrTup,VRel]
    exact ⟨_,rfl,by simpa using h2⟩
/-! ### Deferred calls -/
inductive UMode where
 |ret
 |pan (l:List (AV × Bool))
def UmOk (g:Gh) (w:World) (L:Nat → Prop) (um:UMode) (m:FrameMode):Prop :=
 match um with
 | .ret => m = .returning
 | .pan l => ∃ chain,m = .panicking chain ∧ ChainRel g w L l chain
def LeaveOk (P:Program) (g:Gh) (w:World) (L:Nat → Prop) (e:AEnd) (fr:Frame):Prop :=
 fr.defers = [] ∧ match e with
  | .ret v => fr.mode = .returning ∧ ∃ fn u,P.funcs[fr.fn]? = some fn ∧ (results fn fr.tmps).run P w = .ok u w ∧ VRel g w v u ∧ Live L v
  | .panic l => ∃ chain,fr.mode = .panicking chain ∧ ChainRel g w L l chain ∧ ∃ fn,P.funcs[fr.fn]? = some fn
def FSem (P:Program) (B:Nat) (f:FuncId) (κ:CallKind) (args:List AV) (pm:APm) (H:AH) (e:AEnd) (pm':APm) (H':AH):Prop :=
 ∀ g vs cs w,HRel g B w H → VRels g w args vs.toList → Lives H.L args → PmRel g w H.L pm (Frame.enter P f vs κ) cs →
  ∃ g' fr' cs' w',Out g B w H g' w' H' ∧ Steps P (lone (Frame.enter P f vs κ) cs w) (lone fr' cs' w') ∧ fr'.fn = f ∧ fr'.kind = κ ∧ CsOk pm cs cs' ∧
   PmRel g' w' H'.L pm' fr' cs' ∧ LeaveOk P g' w' H'.L e fr'
def USem (P:Program) (B:Nat) (f:FuncId) (um:UMode) (σ:St) (e:AEnd) (pm':APm) (H':AH):Prop :=
 ∀ g fr cs w,FrRel g B w σ fr cs → fr.fn = f → UmOk g w σ.H.L um fr.mode →
  ∃ g' fr' cs' w',Out g B w σ.H g' w' H' ∧ Steps P (lone fr cs w) (lone fr' cs' w') ∧ SameFr fr fr' ∧ CsOk σ.pm cs cs' ∧ PmRel g' w' H'.L pm' fr' cs' ∧ LeaveOk P g' w' H'.L e fr'
theorem UmOk.ext {L L':Nat → Prop} {g g':Gh} {w w':World} (hx:Ext L g w g' w') (hl:∀ i,L i → L' i) {um:UMode} {m:FrameMode} (h:UmOk g w L um m):UmOk g' w' L' um m :=by
 cases um with
 |ret => exact h
 |pan l =>
  obtain ⟨chain,h1,h2⟩ :=h
  exact ⟨chain,h1,h2.ext hx hl⟩
theorem USem.done_ret (hT:TOK P T) {f:FuncId} {fn:Func} (hf:P.funcs[f]? = some fn) {vs:List AV} (hdf:σ.df = []) (hres:ResV T σ.tm σ.H.o fn.results.toList vs) :
  USem P B f .ret σ (.ret (oneOrTup vs)) σ.pm σ.H :=by
 intro g fr cs w hr hfn hm
 obtain ⟨u,h1,h2,h3⟩ :=hres.results hT hr.h hr.tm
 have hd :=hr.df
 rw [hdf] at hd
 exact ⟨g,fr,cs,w,Out.refl hr.h,Steps.refl _ _,⟨rfl,rfl,rfl⟩,CsOk.refl _ _ _ hr.pm,hr.pm,hd,hm,fn,u,by rw [hfn];exact hf,h1,h2,h3⟩
theorem USem.done_pan {f:FuncId} {fn:Func} (hf:P.funcs[f]? = some fn) {l:List (AV × Bool)} (hdf:σ.df = []):USem P B f (.pan l) σ (.panic l) σ.pm σ.H :=by
 intro g fr cs w hr hfn hm
 obtain ⟨chain,h1,h2⟩ :=hm
 have hd :=hr.df
 rw [hdf] at hd
 exact ⟨g,fr,cs,w,Out.refl hr.h,Steps.refl _ _,⟨rfl,rfl,rfl⟩,CsOk.refl _ _ _ hr.pm,hr.pm,hd,chain,h1,h2,fn,by rw [hfn];exact hf⟩
def settleA:APm → UMode
 | .no => .ret
 | .ret => .ret
 | .pan l => match l with
  | [] => .pan []
  |(v,b) :: r => match b with
   |true => .ret
   |false => .pan ((v,false) :: r)
def raisedA (l:List (AV × Bool)):APm → UMode
 | .pan l' => .pan (l ++ l')
 | _ => .pan l
def pmOf:UMode → APm
 | .ret => .ret
 | .pan l => .pan l
theorem ChainRel.noGoexit {g:Gh} {w:World} {L:Nat → Prop}:∀ {l:List (AV × Bool)} {es:List PanicEntry},ChainRel g w L l es → es.dropWhile (!·.goexit) = []
 | [],es,h => by simp only [ChainRel] at h;subst h;rfl
 |(_,_) :: _,es,h => by
  obtain ⟨e,es',e1,_,_,_,h4,h5⟩ :=h
  subst e1
  simp [h4,ChainRel.noGoexit h5]
theorem settle_ok {g:Gh} {w:World} {L:Nat → Prop} {l:List (AV × Bool)} {chain:List PanicEntry} (h:ChainRel g w L l chain):UmOk g w L (settleA (.pan l)) (settle (.panicking chain)) :=by
 cases l with
 |nil =>
  have h' :=h
  simp only [ChainRel] at h
  subst h
  exact ⟨[],rfl,h'⟩
 |cons p r =>
  obtain ⟨v,b⟩ :=p
  have h' :=h
  obtain ⟨e,es',e1,h1,h2,h3,h4,h5⟩ :=h
  subst e1
  cases b with
  |true =>
   show settle (.panicking (e :: es')) = .returning
   unfold settle
   obtain ⟨ev,er,eg⟩ :=e
   simp only at h3
   subst h3
   have :=h5.noGoexit
   simp only [this]
  |false =>
   refine ⟨e :: es',?_,h'⟩
   unfold settle
   obtain ⟨ev,er,eg⟩ :=e
   simp only at h3
   subst h3
   rfl
theorem ChainRel.append {g:Gh} {w:World} {L:Nat → Prop}:∀ {l l':List (AV × Bool)} {es es':List PanicEntry},ChainRel g w L l es → ChainRel g w L l' es' → ChainRel g w L (l ++ l') (es ++ es')
 | [],_,_,_,h,k => by simp only [ChainRel] at h;subst h;simpa using k
 |(_,_) :: _,_,_,_,h,k => by
  obtain ⟨e,es',e1,h1,h2,h3,h4,h5⟩ :=h
  subst e1
  simp only [List.cons_append,ChainRel]
  exact ⟨e,_,rfl,h1,h2,h3,h4,ChainRel.append h5 k⟩
theorem callFunc_enter (hF:FOK P F) {f:FuncId} {fn:Func} (hf:F.get f = some fn) {c:Code} (hb:fn.body = some c) (args:Array Value) (w:World):(callFunc f args).run P w = .ok (.enter f args) w :=by
 obtain ⟨h1,h2⟩ :=hF f fn hf
 simp only [callFunc,Sem.run_bind,run_program,Result.andThen_ok,h1,h2,Bool.false_eq_true,if_false,hb,Option.isNone_some,Sem.run_pure]
theorem USem.call (hF:FOK P F) {f d:FuncId} {um um':UMode} {dfn:Func} {c:Code} (hd:F.get d = some dfn) (hb:dfn.body = some c) {args:List AV} {df:List ADf} (hdf:σ.df = .call d args :: df) {e:AEnd} {pm1:APm} {H1:AH}
  (hcall:FSem P B d .deferred args (pmOf um) σ.H e pm1 H1) (hpm1:match um with | .ret => pm1 = .ret | .pan _ => ∃ l,pm1 = .pan l)
  (hum:um' = match e with | .ret _ => settleA pm1 | .panic l => raisedA l pm1) {e':AEnd} {pm':APm} {H':AH}
  (hrest:USem P B f um' { σ with df :=df,H :=H1 } e' pm' H'):USem P B f um σ e' pm' H' :=by
 intro g fr cs w hr hfn hm
 have hdr :=hr.df
 rw [hdf] at hdr
 obtain ⟨dd,ds,e1,⟨cap,as,e2,h1⟩,h2,h3⟩ :=hdr
 have hmode:fr.mode ≠ .run :=by
  cases um with
  |ret => have:fr.mode = .returning :=hm;rw [this];simp
  |pan l => obtain ⟨chain,hc,_⟩ :=hm;rw [hc];simp
 have hinv:(invoke dd.target dd.args).run P w = .ok (.enter d (as ++ cap)) w :=by
  rw [e2];exact callFunc_enter hF hd hb _ w
 have hst :=step_defer (cs :=cs) hmode e1 (by rw [e2]) hinv
 have hpm:PmRel g w σ.H.L (pmOf um) (Frame.enter P d (as ++ cap) .deferred) ({ fr with defers :=ds } :: cs) :=by
  cases um with
  |ret => exact ⟨rfl,rfl,_,_,rfl,hm⟩
  |pan l => obtain ⟨chain,hc,hcr⟩ :=hm;exact ⟨rfl,rfl,_,_,chain,rfl,hc,hcr⟩
 obtain ⟨g1,fr1,cs1,w1,k1,k2,k3,k4,k5,k6,k7,k8⟩ :=hcall g (as ++ cap) ({ fr with defers :=ds } :: cs) w hr.h h1 h2 hpm
 -- the caller's frame behind the call
 obtain ⟨m1,hcs1,hm1⟩ : ∃ m1,cs1 = { ({ fr with defers :=ds }:Frame) with mode :=m1 } :: cs ∧ match pm1 with | .pan l => ∃ chain,m1 = .panicking chain ∧ ChainRel g1 w1 H1.L l chain | _ => m1 = .returning :=by
  cases um with
  |ret =>
   have hp:pm1 = .ret :=hpm1
   subst hp
   have k5:cs1 = _ :=k5
   exact ⟨fr.mode,k5,hm⟩
  |pan l =>
   obtain ⟨l1,hp⟩ :=hpm1
   subst hp
   obtain ⟨c0,rest,m,q1,q2⟩ :=k5
   injection q1 with q3 q4
   subst q3;subst q4
   obtain ⟨_,_,c1,rest1,chain,q5,q6,q7⟩ :=k6
   rw [q2] at q5
   injection q5 with q8 q9
   subst q8
   exact ⟨m,q2,chain,q6,q7⟩
 subst hcs1
 have hfr:∀ m:FrameMode,FrRel g1 B w1 { σ with df :=df,H :=H1 } { ({ fr with defers :=ds }:Frame) with mode :=m } cs :=fun m =>
  ⟨k1.rel,hr.tm.ext k1.ext k1.L,h3.ext k1.ext k1.L,by
   have :=hr.pm.ext k1.ext k1.L
   unfold PmRel at *
   split at this <;> simp_all,hr.rd⟩
 have finish:∀ m:FrameMode,UmOk g1 w1 H1.L um' m → Steps P (lone fr1 ({ ({ fr with defers :=ds }:Frame) with mode :=m1 } :: cs) w1) (lone { ({ fr with defers :=ds }:Frame) with mode :=m } cs w1) →
   ∃ g' fr' cs' w',Out g B w σ.H g' w' H' ∧ Steps P (lone fr cs w) (lone fr' cs' w') ∧ SameFr fr fr' ∧ CsOk σ.pm cs cs' ∧ PmRel g' w' H'.L pm' fr' cs' ∧ LeaveOk P g' w' H'.L e' fr' :=by
  intro m hum hs
  obtain ⟨g2,fr2,cs2,w2,q1,q2,q3,q4,q5,q6⟩ :=hrest g1 _ cs w1 (hfr m) hfn hum
  exact ⟨g2,fr2,cs2,w2,k1.trans q1,.head hst (k2.trans (hs.trans q2)),⟨q3.fn,q3.kind,q3.round⟩,q4,q5,q6⟩
 cases e with
 |ret v =>
  obtain ⟨k8,fn,u,k9,k10,_⟩ :=k8
  have hgo:fr1.going P w1 (.returned u) :=⟨k8,k7,fn,k9,k10⟩
  have hstep :=step_going_returned (c :={ ({ fr with defers :=ds }:Frame) with mode :=m1 }) (cs :=cs) k4 hgo
  refine finish (settle m1) ?_ (.one hstep)
  subst hum
  cases pm1 with
  |no =>
   have hm1:m1 = .returning :=hm1
   subst hm1;rfl
  |ret =>
   have hm1:m1 = .returning :=hm1
   subst hm1;rfl
  |pan l =>
   obtain ⟨chain,rfl,hcr⟩ :=hm1
   exact settle_ok hcr
 |panic l =>
  obtain ⟨chain,k8,k9,fn,k10⟩ :=k8
  have hgo:fr1.going P w1 (.panicked chain) :=⟨k8,k7,fn,k10⟩
  have hstep :=step_going_panicked (c :={ ({ fr with defers :=ds }:Frame) with mode :=m1 }) (cs :=cs) hgo
  refine finish (raised m1 chain) ?_ (.one hstep)
  subst hum
  cases pm1 with
  |no =>
   have hm1:m1 = .returning :=hm1
   subst hm1;exact ⟨chain,rfl,k9⟩
  |ret =>
   have hm1:m1 = .returning :=hm1
   subst hm1;exact ⟨chain,rfl,k9⟩
  |pan l' =>
   obtain ⟨chain',rfl,hcr⟩ :=hm1
   exact ⟨chain ++ chain',rfl,k9.append hcr⟩
theorem USem.mark {f:FuncId} {um:UMode} {o:Nat} {df:List ADf} (hdf:σ.df = .mark o :: df) (ho:σ.H.o o = .dfr false) {e':AEnd} {pm':APm} {H':AH}
  (hrest:USem P B f um { σ with df :=df,H :=σ.H.put o (.dfr true) 0 } e' pm' H'):USem P B f um σ e' pm' H' :=by
 intro g fr cs w hr hfn hm
 have hdr :=hr.df
 rw [hdf] at hdr
 obtain ⟨ds,e1,h1,h2⟩ :=hdr
 have hro :=hr.h.rel o
 rw [ho] at hro
 obtain ⟨m1,m2⟩ :=hro
 have hlt:g.ob o < w.heap.size :=by
  have :=(hr.h.ge o h1).2
  rw [ho] at this
  exact this
 have hout:Out g B w σ.H g { w with heap :=w.heap.setIfInBounds (g.ob o) (.deferred none) } (σ.H.put o (.dfr true) 0) :=by
  refine hr.h.setOb h1 (by rw [ho];rfl) m2 (by simp) rfl 0 (by simp) (fun k hk => ?_) rfl rfl rfl ?_ trivial trivial
  ·show (w.heap.setIfInBounds (g.ob o) _)[k]? = _
   rw [Array.getElem?_setIfInBounds_ne (by omega)]
  ·intro _
   refine ⟨?_,m2⟩
   show (w.heap.setIfInBounds (g.ob o) _)[g.ob o]? = _
   rw [Array.getElem?_setIfInBounds_self_of_lt hlt]
   rfl
 have hr':FrRel g B { w with heap :=w.heap.setIfInBounds (g.ob o) (.deferred none) } { σ with df :=df,H :=σ.H.put o (.dfr true) 0 } { fr with defers :=ds } cs :=
  ⟨hout.rel,hr.tm.ext hout.ext hout.L,h2.ext hout.ext hout.L,by
   have :=hr.pm.ext hout.ext hout.L
   unfold PmRel at *
   split at this <;> simp_all,hr.rd⟩
 obtain ⟨g2,fr2,cs2,w2,q1,q2,q3,q4,q5,q6⟩ :=hrest g { fr with defers :=ds } cs _ hr' hfn (hm.ext hout.ext hout.L)
 refine ⟨g2,fr2,cs2,w2,hout.trans q1,(step_go ?_).trans q2,⟨q3.fn,q3.kind,q3.round⟩,q4,q5,q6⟩
 have htake:(Instr.takeDeferred (g.ob o)).run P w = .ok [] { w with heap :=w.heap.setIfInBounds (g.ob o) (.deferred none) } :=by
  simp [Instr.takeDeferred,getObj,setObj,Sem.run,m1]
 have hmode:fr.mode ≠ .run :=by
  cases um with
  |ret => have:fr.mode = .returning :=hm;rw [this];simp
  |pan l => obtain ⟨chain,hc,_⟩ :=hm;rw [hc];simp
 cases hmd:fr.mode with
 |run => exact absurd hmd hmode
 |returning => simp [stepG,unwind,hmd,e1,htake]
 |panicking chain => simp [stepG,unwind,hmd,e1,htake]
/-! ### Bodies -/
def InitTm (args:List AV) (n:Nat) (tm:Tr AV):Prop :=∀ j,tm.get j = if j < args.length then args[j]? else if j < n then some .unk else none
theorem InitTm.rel {g:Gh} {w:World} {L:Nat → Prop} {args:List AV} {n:Nat} {tm:Tr AV} (h:InitTm args n tm) {vs:Array Value} (hv:VRels g w args vs.toList) (hl:Lives L args) (hn:args.length ≤ n) :
  FRel g w L tm (vs ++ Array.replicate (n - vs.size) undef) :=by
 have hlen :=hv.length
 have hvs:vs.size = args.length :=by rw [← hlen];simp
 constructor
 ·intro t a ha
  rw [h] at ha
  split at ha
  ·rename_i ht
   obtain ⟨v,h1,h2⟩ :=hv.get _ _ ha
   refine ⟨by simp;omega,?_⟩
   rw [Array.getD_eq_getD_getElem?,Array.getElem?_append_left (by omega)]
   rw [Array.getElem?_toList] at h1
   rw [h1]
   exact h2
  ·split at ha
   ·cases ha
    refine ⟨by simp;omega,trivial⟩
   ·cases ha
 ·intro t a ha
  rw [h] at ha
  split at ha
  ·exact hl.mem _ _ (List.mem_of_getElem? ha)
  ·split at ha
   ·cases ha;trivial
   ·cases ha
theorem FSem.body (hF:FOK P F) {f:FuncId} {fn:Func} (hf:F.get f = some fn) {c:Code} (hb:fn.body = some c) {κ:CallKind} {args:List AV} {pm:APm} {H:AH} {tm:Tr AV} (hn:args.length ≤ fn.ntmps) (htm:InitTm args fn.ntmps tm)
  {ex:AEx} {um:UMode} (hex:match ex with | .normal => um = .ret | .ret => um = .ret | .panic l => um = .pan l | .exit _ => False)
  (hbody:Sem P B c { tm :=tm,df :=[],pm :=pm,rd :=false,H :=H } ex σ1) (hpmk:(∀ l,pm ≠ .pan l) → ∀ l,σ1.pm ≠ .pan l) {e:AEnd} {pm':APm} {H':AH} (hu:USem P B f um σ1 e pm' H') (hpmk':(∀ l,σ1.pm ≠ .pan l) → ∀ l,pm' ≠ .pan l) :
  FSem P B f κ args pm H e pm' H' :=by
 intro g vs cs w hr hv hl hpm
 have _ :=hpmk'
 obtain ⟨hf1,_⟩ :=hF f fn hf
 have hlen :=hv.length
 have henter:Frame.enter P f vs κ = { fn :=f,tmps :=vs ++ Array.replicate (fn.ntmps - vs.size) undef,todo :=[.code c],defers :=[],mode :=.run,kind :=κ } :=by
  simp [Frame.enter,hf1,hb]
 rw [henter] at hpm ⊢
 generalize hfr:({ fn :=f,tmps :=vs ++ Array.replicate (fn.ntmps - vs.size) undef,todo :=[.code c],defers :=[],mode :=.run,kind :=κ }:Frame) = fr at hpm ⊢
 have hrel:FrRel g B w { tm :=tm,df :=[],pm :=pm,rd :=false,H :=H } fr cs :=by
  refine ⟨hr,?_,?_,hpm,fun _ => ?_⟩
  ·rw [← hfr];exact htm.rel hv hl hn
  ·rw [← hfr];rfl
  ·rw [← hfr]
 have hmode:fr.mode = .run :=by rw [← hfr]
 have htodo:fr.todo = [.code c] ++ [] :=by rw [← hfr];rfl
 have hround:fr.roundOf = none :=by rw [← hfr]
 have hfn:fr.fn = f :=by rw [← hfr]
 have hkind:fr.kind = κ :=by rw [← hfr]
 obtain ⟨k',hk'⟩ : ∃ k',tgt ex [] = some k' :=by
  cases ex <;> first
   |exact ⟨_,rfl⟩
   |exact hex.elim
 obtain ⟨g1,fr1,cs1,w1,h1,h2,h3,h4,h5,h6,h7⟩ :=hbody g fr cs w [] hrel hmode htodo (fun _ => trivial) k' hk'
 have go:∀ fr2:Frame,SameFr fr fr2 → FrRel g1 B w1 σ1 fr2 cs1 → UmOk g1 w1 σ1.H.L um fr2.mode → Steps P (lone fr1 cs1 w1) (lone fr2 cs1 w1) →
   ∃ g' fr' cs' w',Out g B w H g' w' H' ∧ Steps P (lone fr cs w) (lone fr' cs' w') ∧ fr'.fn = f ∧ fr'.kind = κ ∧ CsOk pm cs cs' ∧ PmRel g' w' H'.L pm' fr' cs' ∧ LeaveOk P g' w' H'.L e fr' :=by
  intro fr2 hsame hrel2 hum hs
  obtain ⟨g3,fr3,cs3,w3,q1,q2,q3,q4,q5,q6⟩ :=hu g1 fr2 cs1 w1 hrel2 (hsame.fn.trans hfn) hum
  exact ⟨g3,fr3,cs3,w3,h2.trans q1,h7.trans (hs.trans q2),q3.fn.trans (hsame.fn.trans hfn),q3.kind.trans (hsame.kind.trans hkind),h4.trans q4 hpmk,q5,q6⟩
 cases ex with
 |normal =>
  subst hex
  obtain ⟨h8,h9⟩ :=h6
  simp only [tgt,Option.some.injEq] at hk'
  subst hk'
  refine go { fr1 with mode :=.returning } ⟨h3.fn,h3.kind,h3.round⟩ (h1.mode _) rfl (step_go ?_)
  have hro:fr1.roundOf = none :=h3.round.trans hround
  simp [stepG,stepG.exec,h8,h9,hro]
 |ret =>
  subst hex
  have hro:fr1.roundOf = none :=h3.round.trans hround
  have h6:fr1.mode = .returning :=by simpa [ExOk,hro] using h6
  exact go fr1 h3 h1 h6 (Steps.refl _ _)
 |panic l =>
  subst hex
  exact go fr1 h3 h1 h6 (Steps.refl _ _)
 |exit id => exact hex.elim
theorem CSem.of_F {f:FuncId} {args:List AV} {H H':AH} {e:AEnd} {pm':APm} (h:FSem P B f .normal args .no H e pm' H'):CSem P B f args H e H' :=by
 intro g vs cs w hr hv hl
 obtain ⟨g',fr',cs',w',h1,h2,h3,h4,h5,h6,h7,h8⟩ :=h g vs cs w hr hv hl trivial
 have h5:cs' = cs :=h5
 subst h5
 refine ⟨g',fr',w',h1,h2,h3,?_⟩
 cases e with
 |ret v =>
  obtain ⟨k1,fn,u,k2,k3,k4,k5⟩ :=h8
  exact ⟨u,⟨k1,h7,h4,fn,k2,k3⟩,k4,k5⟩
 |panic l =>
  obtain ⟨chain,k1,k2,fn,k3⟩ :=h8
  exact ⟨chain,⟨k1,h7,fn,k3⟩,k2⟩
end
end
end Go.Abs

/-! recover, and loops over functions. -/
namespace Go.Abs
open Go
noncomputable section
mutual
theorem Live.bd_le {L:Nat → Prop} {n:Nat} (hL:∀ i,L i → i < n):∀ (a:AV),Live L a → bd a ≤ n
 | .unk,_ => Nat.zero_le _
 | .int _ _,_ => Nat.zero_le _
 | .bool _,_ => Nat.zero_le _
 | .str _,_ => Nat.zero_le _
 | .nilp,_ => Nat.zero_le _
 | .ptr _ _,h => hL _ h
 | .lptr xs _,h => Lives.bd_le hL xs h
 | .gp _ _,_ => Nat.zero_le _
 | .nils,_ => Nat.zero_le _
 | .slc _ _ _ _,h => hL _ h
 | .lst xs _ .no,h => Lives.bd_le hL xs h.1
 | .lst xs _ .full,h => Lives.bd_le hL xs h.1
 | .lst xs _ (.ch c),h => Nat.max_le.2 ⟨hL _ (h.2 c rfl),Lives.bd_le hL xs h.1⟩
 | .nilm,_ => Nat.zero_le _
 | .map _,h => hL _ h
 | .nilf,_ => Nat.zero_le _
 | .func _ f c,h => Nat.max_le.2 ⟨Lives.bd_le hL f h.1,Lives.bd_le hL c h.2⟩
 | .yld _,h => hL _ h
 | .nili,_ => Nat.zero_le _
 | .iface _ a,h => Live.bd_le hL a h
 | .agg cs,h => Lives.bd_le hL cs h
 | .tup cs,h => Lives.bd_le hL cs h
theorem Lives.bd_le {L:Nat → Prop} {n:Nat} (hL:∀ i,L i → i < n):∀ (xs:List AV),Lives L xs → bdl xs ≤ n
 | [],_ => Nat.zero_le _
 |x :: xs,h => Nat.max_le.2 ⟨Live.bd_le hL x h.1,Lives.bd_le hL xs h.2⟩
end
section
variable {P:Program} {B:Nat} {σ σ1 σ2 σ':St} {T:Tr TypeInfo} {F:Tr Func} {X:XT}
theorem OpS.recover_pan (hT:TOK P T) (hF:FOK P F) (hX:XOK P X) {ops:Array Oper} {i s:Nat} {o:Oper} (ho:ops[i]? = some o) (hg:guardA ops σ.tm o = some true) (hsl:σ.H.o s = .hole) {R:List Nat} {W:WL}
  (hev:EvF s (pOp P T F X (aev σ.tm) o) σ.H.o .recover R W) (hrd:σ.rd = false) {v:AV} {l:List (AV × Bool)} (hpm:σ.pm = .pan ((v,false) :: l)) {tm':Tr AV} (hs:SetD σ.tm o.dst v tm') :
  OpS P B ops i σ .normal { σ with tm :=tm',pm :=.pan ((v,true) :: l) } :=by
 intro g fr cs w rest k hr hm ht
 obtain ⟨rfl,h1⟩ :=pOp_ok (opCtx hT hF hr hsl) hX hev
 have hro :=hr.rd hrd
 have hst :=stepG_oper (P :=P) (cs :=cs) (w :=w) hm ht ho (guardA_ok hr.tm hg) (.inl hro)
 have hp :=hr.pm
 rw [hpm] at hp
 obtain ⟨p1,p2,c0,rest0,chain,p3,p4,p5⟩ :=hp
 obtain ⟨e,es',p6,p7,p8,p9,p10,p11⟩ :=p5
 obtain ⟨ev,er,eg⟩ :=e
 simp only at p7 p9 p10
 subst p9 p10 p6 p3
 have htry:tryRecover fr (c0 :: rest0) = some (ev,{ c0 with mode :=.panicking ({ v :=ev,recovered :=true } :: es') } :: rest0) :=by
  simp [tryRecover,p1,p4]
 refine ⟨g,fr.finish ev,{ c0 with mode :=.panicking ({ v :=ev,recovered :=true } :: es') } :: rest0,w,?_,Out.refl hr.h,?_,?_,fun h => absurd hpm (h _),?_,step_go ?_⟩
 ·have h0:FrRel g B w { σ with pm :=.no } fr (c0 :: rest0) :=⟨hr.h,hr.tm,hr.df,trivial,hr.rd⟩
  have h1 :=h0.finish ht ho p7 p8 hs
  refine ⟨h1.h,h1.tm,h1.df,?_,h1.rd⟩
  rw [finish_region ht ho]
  refine ⟨p1,p2,_,_,_,rfl,rfl,?_⟩
  exact ⟨_,_,rfl,p7,p8,rfl,rfl,p11⟩
 ·rw [finish_region ht ho];exact ⟨rfl,rfl,rfl⟩
 ·rw [hpm];exact ⟨c0,rest0,_,rfl,rfl⟩
 ·rw [finish_region ht ho];exact ⟨hm,rfl⟩
 ·rw [hst];simp [stepG.apply,h1,hro,htry]
theorem OpS.recover_nil (hT:TOK P T) (hF:FOK P F) (hX:XOK P X) {ops:Array Oper} {i s:Nat} {o:Oper} (ho:ops[i]? = some o) (hg:guardA ops σ.tm o = some true) (hsl:σ.H.o s = .hole) {R:List Nat} {W:WL}
  (hev:EvF s (pOp P T F X (aev σ.tm) o) σ.H.o .recover R W) (hrd:σ.rd = false) (hpm:σ.pm = .ret) {tm':Tr AV} (hs:SetD σ.tm o.dst .nili tm') :
  OpS P B ops i σ .normal { σ with tm :=tm' } :=by
 intro g fr cs w rest k hr hm ht
 obtain ⟨rfl,h1⟩ :=pOp_ok (opCtx hT hF hr hsl) hX hev
 have hro :=hr.rd hrd
 have hst :=stepG_oper (P :=P) (cs :=cs) (w :=w) hm ht ho (guardA_ok hr.tm hg) (.inl hro)
 have hp :=hr.pm
 rw [hpm] at hp
 obtain ⟨p1,p2,c0,rest0,p3,p4⟩ :=hp
 have htry:tryRecover fr cs = Option.none :=by
  simp [tryRecover,p1,p3,p4]
 have hu:VRel g w .nili .nilIface :=rfl
 refine ⟨g,fr.finish .nilIface,cs,w,hr.finish ht ho hu trivial hs,Out.refl hr.h,?_,CsOk.refl _ _ _ hr.pm,fun h => h,?_,step_go ?_⟩
 ·rw [finish_region ht ho];exact ⟨rfl,rfl,rfl⟩
 ·rw [finish_region ht ho];exact ⟨hm,rfl⟩
 ·rw [hst];simp [stepG.apply,h1,hro,htry]
def SetAll (tm:Tr AV):List (Nat × AV) → Tr AV → Prop
 | [],tm' => tm' = tm
 |(p,a) :: r,tm' => ∃ t1,SetD tm (some p) a t1 ∧ SetAll t1 r tm'
theorem FRel.setAll {g:Gh} {w:World} {L:Nat → Prop}:∀ (ps:List Nat) (args:List AV) (vs:List Value) {tm tm':Tr AV} {arr:Array Value},VRels g w args vs → Lives L args → SetAll tm (ps.zip args) tm' → FRel g w L tm arr →
  FRel g w L tm' ((ps.zip vs).foldl (fun tmps (t,a) => tmps.setIfInBounds t a) arr)
 | [],_,_,_,_,_,_,_,h,hf => by
  simp only [List.zip_nil_left,SetAll] at h
  subst h
  simpa using hf
 | _ :: _,[],_,_,_,_,hv,_,h,hf => by
  simp only [VRels] at hv
  simp only [List.zip_nil_right,SetAll] at h
  subst h;subst hv
  simpa using hf
 |p :: ps,a :: args,vs,_,_,_,hv,hl,h,hf => by
  obtain ⟨u,us,e,h1,h2⟩ :=hv
  subst e
  obtain ⟨t1,h3,h4⟩ :=h
  have :=FRel.setAll ps args us h2 hl.2 h4 (hf.set h3.1 h3.2 h1 hl.1)
  simpa using this
theorem HRel.setLoop {g:Gh} {w:World} {H:AH} (h:HRel g B w H) {l:Nat} {st:LoopState} {fn:FuncId} {tm:Tr AV} {nt:Nat} {params:List Tmp} {assign body:Code} {dfr:Nat}
  (hl:H.o l = .loop st fn tm nt params assign body dfr) {lp:Loop} (hlp:w.heap[g.ob l]? = some (.loop lp)) (st':LoopState) {pe:Option Code} (hpe:PendOk st' pe) {lp':Loop} (he:lp' = { lp with state :=st',pending :=pe }) :
  Out g B w H g { w with heap :=w.heap.setIfInBounds (g.ob l) (.loop lp') } (H.put l (.loop st' fn tm nt params assign body dfr) 0) :=by
 have hL:H.L l :=by unfold AH.L;rw [hl];simp
 have hr :=h.rel l
 rw [hl] at hr
 obtain ⟨lp0,q1,q2,q3,q4,q6,q7,q8,q9,q10⟩ :=hr
 rw [hlp] at q1
 injection q1 with q1
 injection q1 with q1
 subst q1
 have hlt:g.ob l < w.heap.size :=by
  have :=(h.ge l hL).2
  rw [hl] at this
  exact this
 have hlv :=h.live l
 rw [hl] at hlv
 have hk :=h.kp l
 rw [hl] at hk
 refine h.setOb hL (by rw [hl];rfl) q2 (by simp) rfl 0 (by simp) (fun k hk => ?_) rfl rfl rfl ?_ ?_ ?_
 ·show (w.heap.setIfInBounds (g.ob l) _)[k]? = _
  rw [Array.getElem?_setIfInBounds_ne (by omega)]
 ·intro hx
  refine ⟨lp',?_,q2,by rw [he],by rw [he];exact hpe,?_,by rw [he];exact q7,by rw [he];exact q8,by rw [he];exact q9,by rw [he];exact q10⟩
  ·show (w.heap.setIfInBounds (g.ob l) _)[g.ob l]? = _
   rw [Array.getElem?_setIfInBounds_self_of_lt hlt]
  ·subst he
   exact q6.ext hx hlv.1
 ·exact ⟨fun j a hj => (hlv.1 j a hj).mono fun i hi => AH.put_L H l _ (by simp) hi,AH.put_L H l _ (by simp) hlv.2⟩
 ·have:(H.put l (.loop st' fn tm nt params assign body dfr) 0).keep = H.keep :=by simp [AH.put]
  rw [this]
  exact hk
theorem OpS.yld (hT:TOK P T) (hF:FOK P F) (hX:XOK P X) {ops:Array Oper} {i s:Nat} {o:Oper} (ho:ops[i]? = some o) (hg:guardA ops σ.tm o = some true) (hsl:σ.H.o s = .hole) {l:Nat} {args:List AV} {R:List Nat} {W:WL}
  (hev:EvF s (pOp P T F X (aev σ.tm) o) σ.H.o (.yld l args) R W) {fn:FuncId} {tm:Tr AV} {nt:Nat} {params:List Tmp} {assign body:Code} {dfr:Nat}
  (hl:σ.H.o l = .loop .ready fn tm nt params assign body dfr) {tm0:Tr AV} (hset:SetAll tm (params.zip args) tm0)
  (hassign:Sem P B assign { tm :=tm0,df :=[],pm :=.no,rd :=true,H :=σ.H } .normal σ1)
  {fn1:FuncId} {tm1:Tr AV} {nt1:Nat} {params1:List Tmp} {assign1 body1:Code} {dfr1:Nat} (h1:σ1.H.o l = .loop .ready fn1 tm1 nt1 params1 assign1 body1 dfr1)
  (hbody:Sem P B body { σ1 with H :=σ1.H.put l (.loop .busy fn1 tm1 nt1 params1 assign1 body1 dfr1) 0 } .normal σ2)
  {st2:LoopState} {fn2:FuncId} {tm2:Tr AV} {nt2:Nat} {params2:List Tmp} {assign2 body2:Code} {dfr2:Nat} (h2:σ2.H.o l = .loop st2 fn2 tm2 nt2 params2 assign2 body2 dfr2)
  {tm':Tr AV} (hs:SetD σ.tm o.dst (.bool true) tm') :
  OpS P B ops i σ .normal { σ with tm :=tm',H :=σ2.H.put l (.loop .ready fn2 tm2 nt2 params2 assign2 body2 dfr2) 0 } :=by
 intro g fr cs w rest k hr hm ht
 obtain ⟨rfl,hL,vs,⟨st',fn',tmx,nt',params',assign',body',dfr',e0,hsz,lp,hlp,hres⟩,hv,hlv⟩ :=pOp_ok (opCtx hT hF hr hsl) hX hev
 have hst :=stepG_oper (P :=P) (cs :=cs) (w :=w) hm ht ho (guardA_ok hr.tm hg) (.inr (isDefer_of hev (by intro f args e;cases e)))
 rw [hl] at e0
 cases e0
 have hro :=hr.h.rel l
 rw [hl] at hro
 obtain ⟨lp0,q1,q2,q3,q4,q6,q7,q8,q9,q10⟩ :=hro
 rw [hlp] at q1
 injection q1 with q1
 injection q1 with q1
 subst q1
 have hlvl :=hr.h.live l
 rw [hl] at hlvl
 -- the round's frame
 have hfold:(lp.params.zip vs).foldl (fun tmps (t,a) => tmps.setIfInBounds t a) lp.tmps = (params.zip vs.toList).foldl (fun tmps (t,a) => tmps.setIfInBounds t a) lp.tmps :=by
  rw [← Array.foldl_toList,Array.toList_zip,q7]
 have hf0:FRel g w σ.H.L tm0 ((lp.params.zip vs).foldl (fun tmps (t,a) => tmps.setIfInBounds t a) lp.tmps) :=by
  rw [hfold]
  exact FRel.setAll params args vs.toList hv hlv hset ⟨q6,hlvl.1⟩
 generalize hr0:Frame.round (g.ob l) lp.fn ((lp.params.zip vs).foldl (fun tmps (t,a) => tmps.setIfInBounds t a) lp.tmps) lp.assign lp.body .normal = r0
 have hrel0:FrRel g B w { tm :=tm0,df :=[],pm :=.no,rd :=true,H :=σ.H } r0 (fr :: cs) :=by
  rw [← hr0]
  exact ⟨hr.h,hf0,rfl,trivial,fun e => by cases e⟩
 have hm0:r0.mode = .run :=by rw [← hr0];rfl
 have ht0:r0.todo = [.code assign] ++ [.beginRound,.code body] :=by rw [← hr0,← q8,← q9];rfl
 have hro0:r0.roundOf = some (g.ob l) :=by rw [← hr0];rfl
 have hk0:r0.kind = .normal :=by rw [← hr0];rfl
 obtain ⟨g1,r1,cs1,w1,a1,a2,a3,a4,a5,a6,a7⟩ :=hassign g r0 (fr :: cs) w _ hrel0 hm0 ht0 (fun e => by cases e) _ rfl
 have a4:cs1 = fr :: cs :=a4
 subst a4
 have ho1:g1.ob l = g.ob l :=a2.ext.ob l hL
 -- the round begins
 have hro1 :=a1.h.rel l
 rw [h1] at hro1
 obtain ⟨lp1,b1,b2,b3,b4,b6,b7,b8,b9,b10⟩ :=hro1
 have hbeg:(Instr.beginRound (g.ob l)).run P w1 = .ok () { w1 with heap :=w1.heap.setIfInBounds (g1.ob l) (.loop { lp1 with state :=.busy,pending :=Option.none }) } :=by
  rw [← ho1]
  obtain ⟨ls,lpe,lf,lt,lps,la,lb,ld⟩ :=lp1
  simp only at b3 b4
  subst b3 b4
  simp [Instr.beginRound,Instr.getLoop,getObj,setObj,Go.Sem.run,b1]
 have ob :=a1.h.setLoop h1 b1 .busy (pe :=Option.none) rfl rfl
 generalize hw2:({ w1 with heap :=w1.heap.setIfInBounds (g1.ob l) (.loop { lp1 with state :=.busy,pending :=Option.none }) }:World) = w2 at hbeg ob
 have ro1:r1.roundOf = some (g.ob l) :=by rw [a3.round];exact hro0
 have st1:Steps P (lone r1 (fr :: cs) w1) (lone { r1 with todo :=[.code body] } (fr :: cs) w2) :=step_go (by
  simp [stepG,stepG.exec,a6.1,a6.2,stepG.apply,ro1,hbeg,Frame.finish])
 have hrel1:FrRel g1 B w2 { σ1 with H :=σ1.H.put l (.loop .busy fn1 tm1 nt1 params1 assign1 body1 dfr1) 0 } { r1 with todo :=[.code body] } (fr :: cs) :=(a1.out ob).todo _
 have hmm:({ r1 with todo :=[.code body] }:Frame).mode = .run :=a6.1
 obtain ⟨g2,r2,cs2,w3,c1,c2,c3,c4,c5,c6,c7⟩ :=hbody g1 { r1 with todo :=[.code body] } (fr :: cs) w2 [] hrel1 hmm rfl (fun e => by cases e) _ rfl
 have c4' :=CsOk.trans (pm :=.no) (b :=fr :: cs) rfl c4 (fun _ => a5 (by intro l;simp))
 have c4':cs2 = fr :: cs :=c4'
 subst c4'
 have hL1:σ1.H.L l :=a2.L l hL
 have ho2:g2.ob l = g.ob l :=by rw [c2.ext.ob l (AH.put_L σ1.H l _ (by simp) hL1),ho1]
 have hro2 :=c1.h.rel l
 rw [h2] at hro2
 obtain ⟨lp2,d1,d2,d3,d4,d6,d7,d8,d9,d10⟩ :=hro2
 have oe :=c1.h.setLoop h2 d1 .ready (pe :=Option.none) rfl rfl
 have hend:(Instr.endRound (g.ob l) Option.none).run P w3 = .ok (.bool true) { w3 with heap :=w3.heap.setIfInBounds (g2.ob l) (.loop { lp2 with state :=.ready,pending :=Option.none }) } :=by
  rw [← ho2]
  simp [Instr.endRound,Instr.getLoop,getObj,setObj,Go.Sem.run,d1]
 generalize hw4:({ w3 with heap :=w3.heap.setIfInBounds (g2.ob l) (.loop { lp2 with state :=.ready,pending :=Option.none }) }:World) = w4 at hend oe
 have ro2:r2.roundOf = some (g.ob l) :=by rw [c3.round];exact ro1
 have k2:r2.kind = .normal :=by rw [c3.kind];exact a3.kind.trans hk0
 have hall:Out g B w σ.H g2 w4 (σ2.H.put l (.loop .ready fn2 tm2 nt2 params2 assign2 body2 dfr2) 0) :=a2.trans (ob.trans (c2.trans oe))
 have hr' :=hr.out hall
 have hu:VRel g2 w4 (.bool true) (.bool true) :=rfl
 refine ⟨g2,fr.finish (.bool true),cs,w4,hr'.finish ht ho hu trivial hs,hall,?_,CsOk.refl _ _ _ hr.pm,fun h => h,?_,?_⟩
 ·rw [finish_region ht ho];exact ⟨rfl,rfl,rfl⟩
 ·rw [finish_region ht ho];exact ⟨hm,rfl⟩
 ·refine Steps.trans (step_go (fr' :=r0) (cs' :=fr :: cs) (w' :=w) ?_) (Steps.trans a7 (st1.trans (c7.trans (step_go ?_))))
  ·rw [hst,← hr0];simp [stepG.apply,hres]
  ·simp [stepG,stepG.exec,c6.1,c6.2,ro2,hend,doReturn,k2]
theorem OpS.yldR (hT:TOK P T) (hF:FOK P F) (hX:XOK P X) {ops:Array Oper} {i s:Nat} {o:Oper} (ho:ops[i]? = some o) (hg:guardA ops σ.tm o = some true) (hsl:σ.H.o s = .hole) {l:Nat} {args:List AV} {R:List Nat} {W:WL}
  (hev:EvF s (pOp P T F X (aev σ.tm) o) σ.H.o (.yld l args) R W) {fn:FuncId} {tm:Tr AV} {nt:Nat} {params:List Tmp} {assign body:Code} {dfr:Nat}
  (hl:σ.H.o l = .loop .ready fn tm nt params assign body dfr) {tm0:Tr AV} (hset:SetAll tm (params.zip args) tm0)
  (hassign:Sem P B assign { tm :=tm0,df :=[],pm :=.no,rd :=true,H :=σ.H } .normal σ1)
  {fn1:FuncId} {tm1:Tr AV} {nt1:Nat} {params1:List Tmp} {assign1 body1:Code} {dfr1:Nat} (h1:σ1.H.o l = .loop .ready fn1 tm1 nt1 params1 assign1 body1 dfr1)
  (hbody:Sem P B body { σ1 with H :=σ1.H.put l (.loop .busy fn1 tm1 nt1 params1 assign1 body1 dfr1) 0 } .ret σ2)
  {st2:LoopState} {fn2:FuncId} {tm2:Tr AV} {nt2:Nat} {params2:List Tmp} {assign2 body2:Code} {dfr2:Nat} (h2:σ2.H.o l = .loop st2 fn2 tm2 nt2 params2 assign2 body2 dfr2)
  {tm':Tr AV} (hs:SetD σ.tm o.dst (.bool false) tm') :
  OpS P B ops i σ .normal { σ with tm :=tm',H :=σ2.H.put l (.loop .done fn2 tm2 nt2 params2 assign2 body2 dfr2) 0 } :=by
 intro g fr cs w rest k hr hm ht
 obtain ⟨rfl,hL,vs,⟨st',fn',tmx,nt',params',assign',body',dfr',e0,hsz,lp,hlp,hres⟩,hv,hlv⟩ :=pOp_ok (opCtx hT hF hr hsl) hX hev
 have hst :=stepG_oper (P :=P) (cs :=cs) (w :=w) hm ht ho (guardA_ok hr.tm hg) (.inr (isDefer_of hev (by intro f args e;cases e)))
 rw [hl] at e0
 cases e0
 have hro :=hr.h.rel l
 rw [hl] at hro
 obtain ⟨lp0,q1,q2,q3,q4,q6,q7,q8,q9,q10⟩ :=hro
 rw [hlp] at q1
 injection q1 with q1
 injection q1 with q1
 subst q1
 have hlvl :=hr.h.live l
 rw [hl] at hlvl
 -- the round's frame
 have hfold:(lp.params.zip vs).foldl (fun tmps (t,a) => tmps.setIfInBounds t a) lp.tmps = (params.zip vs.toList).foldl (fun tmps (t,a) => tmps.setIfInBounds t a) lp.tmps :=by
  rw [← Array.foldl_toList,Array.toList_zip,q7]
 have hf0:FRel g w σ.H.L tm0 ((lp.params.zip vs).foldl (fun tmps (t,a) => tmps.setIfInBounds t a) lp.tmps) :=by
  rw [hfold]
  exact FRel.setAll params args vs.toList hv hlv hset ⟨q6,hlvl.1⟩
 generalize hr0:Frame.round (g.ob l) lp.fn ((lp.params.zip vs).foldl (fun tmps (t,a) => tmps.setIfInBounds t a) lp.tmps) lp.assign lp.body .normal = r0
 have hrel0:FrRel g B w { tm :=tm0,df :=[],pm :=.no,rd :=true,H :=σ.H } r0 (fr :: cs) :=by
  rw [← hr0]
  exact ⟨hr.h,hf0,rfl,trivial,fun e => by cases e⟩
 have hm0:r0.mode = .run :=by rw [← hr0];rfl
 have ht0:r0.todo = [.code assign] ++ [.beginRound,.code body] :=by rw [← hr0,← q8,← q9];rfl
 have hro0:r0.roundOf = some (g.ob l) :=by rw [← hr0];rfl
 have hk0:r0.kind = .normal :=by rw [← hr0];rfl
 obtain ⟨g1,r1,cs1,w1,a1,a2,a3,a4,a5,a6,a7⟩ :=hassign g r0 (fr :: cs) w _ hrel0 hm0 ht0 (fun e => by cases e) _ rfl
 have a4:cs1 = fr :: cs :=a4
 subst a4
 have ho1:g1.ob l = g.ob l :=a2.ext.ob l hL
 -- the round begins
 have hro1 :=a1.h.rel l
 rw [h1] at hro1
 obtain ⟨lp1,b1,b2,b3,b4,b6,b7,b8,b9,b10⟩ :=hro1
 have hbeg:(Instr.beginRound (g.ob l)).run P w1 = .ok () { w1 with heap :=w1.heap.setIfInBounds (g1.ob l) (.loop { lp1 with state :=.busy,pending :=Option.none }) } :=by
  rw [← ho1]
  obtain ⟨ls,lpe,lf,lt,lps,la,lb,ld⟩ :=lp1
  simp only at b3 b4
  subst b3 b4
  simp [Instr.beginRound,Instr.getLoop,getObj,setObj,Go.Sem.run,b1]
 have ob :=a1.h.setLoop h1 b1 .busy (pe :=Option.none) rfl rfl
 generalize hw2:({ w1 with heap :=w1.heap.setIfInBounds (g1.ob l) (.loop { lp1 with state :=.busy,pending :=Option.none }) }:World) = w2 at hbeg ob
 have ro1:r1.roundOf = some (g.ob l) :=by rw [a3.round];exact hro0
 have st1:Steps P (lone r1 (fr :: cs) w1) (lone { r1 with todo :=[.code body] } (fr :: cs) w2) :=step_go (by
  simp [stepG,stepG.exec,a6.1,a6.2,stepG.apply,ro1,hbeg,Frame.finish])
 have hrel1:FrRel g1 B w2 { σ1 with H :=σ1.H.put l (.loop .busy fn1 tm1 nt1 params1 assign1 body1 dfr1) 0 } { r1 with todo :=[.code body] } (fr :: cs) :=(a1.out ob).todo _
 have hmm:({ r1 with todo :=[.code body] }:Frame).mode = .run :=a6.1
 obtain ⟨g2,r2,cs2,w3,c1,c2,c3,c4,c5,c6,c7⟩ :=hbody g1 { r1 with todo :=[.code body] } (fr :: cs) w2 [] hrel1 hmm rfl (fun _ => trivial) _ rfl
 have c4' :=CsOk.trans (pm :=.no) (b :=fr :: cs) rfl c4 (fun _ => a5 (by intro l;simp))
 have c4':cs2 = fr :: cs :=c4'
 subst c4'
 have hL1:σ1.H.L l :=a2.L l hL
 have ho2:g2.ob l = g.ob l :=by rw [c2.ext.ob l (AH.put_L σ1.H l _ (by simp) hL1),ho1]
 have hro2 :=c1.h.rel l
 rw [h2] at hro2
 obtain ⟨lp2,d1,d2,d3,d4,d6,d7,d8,d9,d10⟩ :=hro2
 have oe :=c1.h.setLoop h2 d1 .done (pe :=some .ret) rfl rfl
 have hend:(Instr.endRound (g.ob l) (some .ret)).run P w3 = .ok (.bool false) { w3 with heap :=w3.heap.setIfInBounds (g2.ob l) (.loop { lp2 with state :=.done,pending :=some .ret }) } :=by
  rw [← ho2]
  simp [Instr.endRound,Instr.getLoop,getObj,setObj,Go.Sem.run,d1]
 generalize hw4:({ w3 with heap :=w3.heap.setIfInBounds (g2.ob l) (.loop { lp2 with state :=.done,pending :=some .ret }) }:World) = w4 at hend oe
 have ro2:r2.roundOf = some (g.ob l) :=by rw [c3.round];exact ro1
 have c6:r2.mode = .run ∧ ∃ r,r2.todo = .code .ret :: r :=by simpa [ExOk,ro2] using c6
 obtain ⟨c6a,rr,c6b⟩ :=c6
 have k2:r2.kind = .normal :=by rw [c3.kind];exact a3.kind.trans hk0
 have hall:Out g B w σ.H g2 w4 (σ2.H.put l (.loop .done fn2 tm2 nt2 params2 assign2 body2 dfr2) 0) :=a2.trans (ob.trans (c2.trans oe))
 have hr' :=hr.out hall
 have hu:VRel g2 w4 (.bool false) (.bool false) :=rfl
 refine ⟨g2,fr.finish (.bool false),cs,w4,hr'.finish ht ho hu trivial hs,hall,?_,CsOk.refl _ _ _ hr.pm,fun h => h,?_,?_⟩
 ·rw [finish_region ht ho];exact ⟨rfl,rfl,rfl⟩
 ·rw [finish_region ht ho];exact ⟨hm,rfl⟩
 ·refine Steps.trans (step_go (fr' :=r0) (cs' :=fr :: cs) (w' :=w) ?_) (Steps.trans a7 (st1.trans (c7.trans (step_go ?_))))
  ·rw [hst,← hr0];simp [stepG.apply,hres]
  ·simp [stepG,stepG.exec,c6a,c6b,ro2,hend,doReturn,k2]
theorem Sem.rangeFunc (hF:FOK P F) {f:Operand} {params:Array Tmp} {assign body:Code} {fid:FuncId} {first cap:List AV} (hv:aev σ.tm f = .func (.func fid) first cap) (hrd:σ.rd = false) {dfn:Func} {c:Code} (hd:F.get fid = some dfn) (hb:dfn.body = some c)
  {fnid:FuncId} {nt:Nat} {v:AV} {H1:AH}
  (hcall:CSem P B fid (first ++ (.yld (σ.H.n + 1) :: cap)) ((σ.H.put σ.H.n (.dfr false) 0).put (σ.H.n + 1) (.loop .ready fnid σ.tm nt params.toList assign body σ.H.n) 0) (.ret v) H1)
  {st2:LoopState} {fn2:FuncId} {tm2:Tr AV} {nt2:Nat} {params2:List Tmp} {assign2 body2:Code} {dfr2:Nat} (h2:H1.o (σ.H.n + 1) = .loop st2 fn2 tm2 nt2 params2 assign2 body2 dfr2) (hst2:st2 = .ready) :
  Sem P B (.rangeFunc f params assign body) σ .normal { σ with df :=.mark σ.H.n :: σ.df,H :=H1.put (σ.H.n + 1) (.loop .exhausted fn2 tm2 nt2 params2 assign2 body2 dfr2) 0 } :=by
 subst hst2
 intro g fr cs w k hr hm ht hro k' hk
 simp only [tgt,Option.some.injEq] at hk
 subst hk
 have hround :=hr.rd hrd
 have hLn:∀ i,σ.H.L i → i < σ.H.n :=fun i hi => Nat.lt_of_not_le fun h => hi (hr.h.wf i h)
 -- the block of deferred calls
 have hs1:σ.H.o σ.H.n = .hole :=hr.h.wf _ (Nat.le_refl _)
 obtain ⟨g1,o1,e1⟩ :=hr.h.newOb hs1 (x :=.dfr false) (by simp) (fun _ _ => rfl) (.deferred (some [])) 0
  (fun g' e1 e2 _ _ => ⟨by rw [e1];exact heap_alloc_new _ _,by rw [e1];exact e2⟩) trivial trivial
 generalize hw1:w.alloc (.deferred (some [])) = w1 at o1
 generalize hH1:σ.H.put σ.H.n (.dfr false) 0 = Ha at o1 hcall
 have hHan:Ha.n = σ.H.n + 1 :=by rw [← hH1];simp [AH.put]
 have hHad:Ha.L σ.H.n :=by rw [← hH1];simp [AH.put,AH.L,upd]
 -- the loop's object
 have hs2:Ha.o (σ.H.n + 1) = .hole :=o1.rel.wf _ (by omega)
 have htm1 :=hr.tm.ext o1.ext o1.L
 have hLa:∀ i,Ha.L i → i < σ.H.n + 1 :=fun i hi => Nat.lt_of_not_le fun h => hi (o1.rel.wf i (by omega))
 obtain ⟨g2,o2,e2⟩ :=o1.rel.newOb hs2 (x :=.loop .ready fnid σ.tm nt params.toList assign body σ.H.n) (by simp) (fun _ _ => rfl)
  (.loop { state :=.ready,pending :=Option.none,fn :=fr.fn,tmps :=fr.tmps,params :=params,assign :=assign,body :=body,defers :=g1.ob σ.H.n }) 0
  (fun g' e1 e2 e3 hx => ⟨_,by rw [e1];exact heap_alloc_new _ _,by rw [e1];exact e2,rfl,by exact rfl,fun j a hj => ⟨(htm1.rel j a hj).1,(htm1.rel j a hj).2.ext hx _ _ (htm1.live j a hj)⟩,rfl,rfl,rfl,(e3 _ hHad).symm⟩)
  ⟨fun j a hj => (htm1.live j a hj).mono fun i hi => AH.put_L Ha _ _ (by simp) hi,AH.put_L Ha _ _ (by simp) hHad⟩
  ⟨fun j a hj => Nat.le_trans (Live.bd_le hLa a (htm1.live j a hj)) (by omega),by omega⟩
 generalize hlpe:({ state :=.ready,pending :=Option.none,fn :=fr.fn,tmps :=fr.tmps,params :=params,assign :=assign,body :=body,defers :=g1.ob σ.H.n }:Loop) = lpe at o2
 generalize hw2:w1.alloc (.loop lpe) = w2 at o2
 generalize hH2:Ha.put (σ.H.n + 1) (.loop .ready fnid σ.tm nt params.toList assign body σ.H.n) 0 = Hb at o2 hcall
 have hHbL:Hb.L (σ.H.n + 1) :=by rw [← hH2];simp [AH.put,AH.L,upd]
 have henter:(Instr.enterLoop fr.fn fr.tmps params assign body Option.none).run P w = .ok (g2.ob (σ.H.n + 1),[{ target :=.collected (g1.ob σ.H.n),args :=#[] }]) w2 :=by
  rw [e2,← hw2,← hlpe,e1,← hw1]
  simp only [Instr.enterLoop,Go.Sem.run_bind,Result.andThen_ok,Go.Sem.run_pure,run_newObj]
  rfl
 generalize hy:(Value.func (.yield (g2.ob (σ.H.n + 1))) #[] #[]) = y
 have hyv:VRel g2 w2 (.yld (σ.H.n + 1)) y :=hy.symm
 have hround2:({ fr with todo :=.inRangeFunc (g2.ob (σ.H.n + 1)) :: k,defers :={ target :=.collected (g1.ob σ.H.n),args :=#[] } :: fr.defers }:Frame).roundOf = Option.none :=hround
 -- the call
 have hf :=hr.tm.ev (a :={ tmps :=fr.tmps,defers :=fr.defers }) hr.h.gl f
 rw [hv] at hf
 have hlf :=hr.tm.evl (x :=f)
 rw [hv] at hlf
 have o12 :=o1.trans o2
 obtain ⟨vf,vc,q1,q2,q3⟩ :=hf.ext o12.ext _ _ hlf
 have hlf' :=hlf.mono o12.L
 have hall:VRels g2 w2 (first ++ (.yld (σ.H.n + 1) :: cap)) (vf.push y ++ vc).toList :=by
  rw [Array.toList_append,Array.toList_push,List.append_assoc]
  exact q2.append ⟨_,_,rfl,hyv,q3⟩
 have hlall:Lives Hb.L (first ++ (.yld (σ.H.n + 1) :: cap)) :=Lives.append hlf'.1 ⟨hHbL,hlf'.2⟩
 have hev:fr.eval f = .func (.func fid) vf vc :=by rw [← q1];cases f <;> rfl
 generalize hfr2:({ fr with todo :=.inRangeFunc (g2.ob (σ.H.n + 1)) :: k,defers :={ target :=.collected (g1.ob σ.H.n),args :=#[] } :: fr.defers }:Frame) = fr2 at hround2
 have hr2:FrRel g2 B w2 { σ with df :=.mark σ.H.n :: σ.df,H :=Hb } fr2 cs :=by
  have h0 :=hr.out o12
  rw [← hfr2]
  refine ⟨h0.h,h0.tm,⟨_,?_,o2.L _ hHad,h0.df⟩,?_,h0.rd⟩
  ·rw [o2.ext.ob _ hHad]
  ·have :=h0.pm
   unfold PmRel at *
   split at this <;> simp_all
 have hm2:fr2.mode = .run :=by rw [← hfr2];exact hm
 have ht2:fr2.todo = .inRangeFunc (g2.ob (σ.H.n + 1)) :: k :=by rw [← hfr2]
 obtain ⟨g3,fr3,w3,k1,k2,k3,u,k4,k5,k6⟩ :=hcall g2 _ (fr2 :: cs) w2 o12.rel hall hlall
 have hr3 :=hr2.out k1
 have hob3:g3.ob (σ.H.n + 1) = g2.ob (σ.H.n + 1) :=k1.ext.ob _ hHbL
 have hro3 :=k1.rel.rel (σ.H.n + 1)
 rw [h2] at hro3
 obtain ⟨lp2,d1,d2,d3,d4,d6,d7,d8,d9,d10⟩ :=hro3
 have oe :=k1.rel.setLoop h2 d1 .exhausted (pe :=Option.none) trivial rfl
 have hend:(Instr.endLoop (g2.ob (σ.H.n + 1))).run P w3 = .ok Option.none { w3 with heap :=w3.heap.setIfInBounds (g3.ob (σ.H.n + 1)) (.loop { lp2 with state :=.exhausted,pending :=Option.none }) } :=by
  rw [← hob3]
  obtain ⟨ls,lpe,lf,lt,lps,la,lb,ld⟩ :=lp2
  simp only at d3 d4
  subst d3
  have d4:lpe = Option.none :=d4
  subst d4
  simp [Instr.endLoop,Instr.getLoop,getObj,setObj,Go.Sem.run,d1]
 generalize hw4:({ w3 with heap :=w3.heap.setIfInBounds (g3.ob (σ.H.n + 1)) (.loop { lp2 with state :=.exhausted,pending :=Option.none }) }:World) = w4 at hend oe
 have hr4 :=hr3.out oe
 refine ⟨g3,{ fr2 with todo :=k },cs,w4,hr4.todo _,o12.trans (k1.trans oe),?_,CsOk.refl _ _ _ hr.pm,fun h => h,⟨hm2,rfl⟩,?_⟩
 ·rw [← hfr2];exact ⟨rfl,rfl,rfl⟩
 ·refine Steps.trans (step_go (fr' :=Frame.enter P fid (vf.push y ++ vc) .normal) (cs' :=fr2 :: cs) (w' :=w2) ?_) (Steps.trans k2 (Steps.trans (.one (step_leave_returned k4)) (step_go ?_)))
  ·have hce :=callFunc_enter hF hd hb (vf.push y ++ vc) w2
   simp only [List.cons_append,List.nil_append] at ht
   rw [← hfr2]
   cases f <;> simp only [Frame.eval] at hev <;> simp [stepG,stepG.exec,hm,ht,hround,henter,stepG.apply,resolve,Deferred.ofValue,invoke,Frame.eval,hev,hy,hce]
  ·simp [stepG,stepG.exec,Frame.finish,hm2,ht2,hend]
theorem Sem.rangeFuncR (hF:FOK P F) {f:Operand} {params:Array Tmp} {assign body:Code} {fid:FuncId} {first cap:List AV} (hv:aev σ.tm f = .func (.func fid) first cap) (hrd:σ.rd = false) {dfn:Func} {c:Code} (hd:F.get fid = some dfn) (hb:dfn.body = some c)
  {fnid:FuncId} {nt:Nat} {v:AV} {H1:AH}
  (hcall:CSem P B fid (first ++ (.yld (σ.H.n + 1) :: cap)) ((σ.H.put σ.H.n (.dfr false) 0).put (σ.H.n + 1) (.loop .ready fnid σ.tm nt params.toList assign body σ.H.n) 0) (.ret v) H1)
  {st2:LoopState} {fn2:FuncId} {tm2:Tr AV} {nt2:Nat} {params2:List Tmp} {assign2 body2:Code} {dfr2:Nat} (h2:H1.o (σ.H.n + 1) = .loop st2 fn2 tm2 nt2 params2 assign2 body2 dfr2) (hst2:st2 = .done) :
  Sem P B (.rangeFunc f params assign body) σ .ret { σ with df :=.mark σ.H.n :: σ.df,H :=H1.put (σ.H.n + 1) (.loop .exhausted fn2 tm2 nt2 params2 assign2 body2 dfr2) 0 } :=by
 subst hst2
 intro g fr cs w k hr hm ht hro k' hk
 simp only [tgt,Option.some.injEq] at hk
 subst hk
 have hround :=hr.rd hrd
 have hLn:∀ i,σ.H.L i → i < σ.H.n :=fun i hi => Nat.lt_of_not_le fun h => hi (hr.h.wf i h)
 -- the block of deferred calls
 have hs1:σ.H.o σ.H.n = .hole :=hr.h.wf _ (Nat.le_refl _)
 obtain ⟨g1,o1,e1⟩ :=hr.h.newOb hs1 (x :=.dfr false) (by simp) (fun _ _ => rfl) (.deferred (some [])) 0
  (fun g' e1 e2 _ _ => ⟨by rw [e1];exact heap_alloc_new _ _,by rw [e1];exact e2⟩) trivial trivial
 generalize hw1:w.alloc (.deferred (some [])) = w1 at o1
 generalize hH1:σ.H.put σ.H.n (.dfr false) 0 = Ha at o1 hcall
 have hHan:Ha.n = σ.H.n + 1 :=by rw [← hH1];simp [AH.put]
 have hHad:Ha.L σ.H.n :=by rw [← hH1];simp [AH.put,AH.L,upd]
 -- the loop's object
 have hs2:Ha.o (σ.H.n + 1) = .hole :=o1.rel.wf _ (by omega)
 have htm1 :=hr.tm.ext o1.ext o1.L
 have hLa:∀ i,Ha.L i → i < σ.H.n + 1 :=fun i hi => Nat.lt_of_not_le fun h => hi (o1.rel.wf i (by omega))
 obtain ⟨g2,o2,e2⟩ :=o1.rel.newOb hs2 (x :=.loop .ready fnid σ.tm nt params.toList assign body σ.H.n) (by simp) (fun _ _ => rfl)
  (.loop { state :=.ready,pending :=Option.none,fn :=fr.fn,tmps :=fr.tmps,params :=params,assign :=assign,body :=body,defers :=g1.ob σ.H.n }) 0
  (fun g' e1 e2 e3 hx => ⟨_,by rw [e1];exact heap_alloc_new _ _,by rw [e1];exact e2,rfl,by exact rfl,fun j a hj => ⟨(htm1.rel j a hj).1,(htm1.rel j a hj).2.ext hx _ _ (htm1.live j a hj)⟩,rfl,rfl,rfl,(e3 _ hHad).symm⟩)
  ⟨fun j a hj => (htm1.live j a hj).mono fun i hi => AH.put_L Ha _ _ (by simp) hi,AH.put_L Ha _ _ (by simp) hHad⟩
  ⟨fun j a hj => Nat.le_trans (Live.bd_le hLa a (htm1.live j a hj)) (by omega),by omega⟩
 generalize hlpe:({ state :=.ready,pending :=Option.none,fn :=fr.fn,tmps :=fr.tmps,params :=params,assign :=assign,body :=body,defers :=g1.ob σ.H.n }:Loop) = lpe at o2
 generalize hw2:w1.alloc (.loop lpe) = w2 at o2
 generalize hH2:Ha.put (σ.H.n + 1) (.loop .ready fnid σ.tm nt params.toList assign body σ.H.n) 0 = Hb at o2 hcall
 have hHbL:Hb.L (σ.H.n + 1) :=by rw [← hH2];simp [AH.put,AH.L,upd]
 have henter:(Instr.enterLoop fr.fn fr.tmps params assign body Option.none).run P w = .ok (g2.ob (σ.H.n + 1),[{ target :=.collected (g1.ob σ.H.n),args :=#[] }]) w2 :=by
  rw [e2,← hw2,← hlpe,e1,← hw1]
  simp only [Instr.enterLoop,Go.Sem.run_bind,Result.andThen_ok,Go.Sem.run_pure,run_newObj]
  rfl
 generalize hy:(Value.func (.yield (g2.ob (σ.H.n + 1))) #[] #[]) = y
 have hyv:VRel g2 w2 (.yld (σ.H.n + 1)) y :=hy.symm
 have hround2:({ fr with todo :=.inRangeFunc (g2.ob (σ.H.n + 1)) :: k,defers :={ target :=.collected (g1.ob σ.H.n),args :=#[] } :: fr.defers }:Frame).roundOf = Option.none :=hround
 -- the call
 have hf :=hr.tm.ev (a :={ tmps :=fr.tmps,defers :=fr.defers }) hr.h.gl f
 rw [hv] at hf
 have hlf :=hr.tm.evl (x :=f)
 rw [hv] at hlf
 have o12 :=o1.trans o2
 obtain ⟨vf,vc,q1,q2,q3⟩ :=hf.ext o12.ext _ _ hlf
 have hlf' :=hlf.mono o12.L
 have hall:VRels g2 w2 (first ++ (.yld (σ.H.n + 1) :: cap)) (vf.push y ++ vc).toList :=by
  rw [Array.toList_append,Array.toList_push,List.append_assoc]
  exact q2.append ⟨_,_,rfl,hyv,q3⟩
 have hlall:Lives Hb.L (first ++ (.yld (σ.H.n + 1) :: cap)) :=Lives.append hlf'.1 ⟨hHbL,hlf'.2⟩
 have hev:fr.eval f = .func (.func fid) vf vc :=by rw [← q1];cases f <;> rfl
 generalize hfr2:({ fr with todo :=.inRangeFunc (g2.ob (σ.H.n + 1)) :: k,defers :={ target :=.collected (g1.ob σ.H.n),args :=#[] } :: fr.defers }:Frame) = fr2 at hround2
 have hr2:FrRel g2 B w2 { σ with df :=.mark σ.H.n :: σ.df,H :=Hb } fr2 cs :=by
  have h0 :=hr.out o12
  rw [← hfr2]
  refine ⟨h0.h,h0.tm,⟨_,?_,o2.L _ hHad,h0.df⟩,?_,h0.rd⟩
  ·rw [o2.ext.ob _ hHad]
  ·have :=h0.pm
   unfold PmRel at *
   split at this <;> simp_all
 have hm2:fr2.mode = .run :=by rw [← hfr2];exact hm
 have ht2:fr2.todo = .inRangeFunc (g2.ob (σ.H.n + 1)) :: k :=by rw [← hfr2]
 obtain ⟨g3,fr3,w3,k1,k2,k3,u,k4,k5,k6⟩ :=hcall g2 _ (fr2 :: cs) w2 o12.rel hall hlall
 have hr3 :=hr2.out k1
 have hob3:g3.ob (σ.H.n + 1) = g2.ob (σ.H.n + 1) :=k1.ext.ob _ hHbL
 have hro3 :=k1.rel.rel (σ.H.n + 1)
 rw [h2] at hro3
 obtain ⟨lp2,d1,d2,d3,d4,d6,d7,d8,d9,d10⟩ :=hro3
 have oe :=k1.rel.setLoop h2 d1 .exhausted (pe :=some .ret) trivial rfl
 have hend:(Instr.endLoop (g2.ob (σ.H.n + 1))).run P w3 = .ok (some .ret) { w3 with heap :=w3.heap.setIfInBounds (g3.ob (σ.H.n + 1)) (.loop { lp2 with state :=.exhausted,pending :=some .ret }) } :=by
  rw [← hob3]
  obtain ⟨ls,lpe,lf,lt,lps,la,lb,ld⟩ :=lp2
  simp only at d3 d4
  subst d3
  have d4:lpe = some .ret :=d4
  subst d4
  simp [Instr.endLoop,Instr.getLoop,getObj,setObj,Go.Sem.run,d1]
 generalize hw4:({ w3 with heap :=w3.heap.setIfInBounds (g3.ob (σ.H.n + 1)) (.loop { lp2 with state :=.exhausted,pending :=some .ret }) }:World) = w4 at hend oe
 have hr4 :=hr3.out oe
 refine ⟨g3,{ fr2 with todo :=.code .ret :: k,mode :=.returning },cs,w4,(hr4.todo (.code .ret :: k)).mode .returning,o12.trans (k1.trans oe),?_,CsOk.refl _ _ _ hr.pm,fun h => h,(by simp [ExOk,hround2]),?_⟩
 ·rw [← hfr2];exact ⟨rfl,rfl,rfl⟩
 ·refine Steps.trans (step_go (fr' :=Frame.enter P fid (vf.push y ++ vc) .normal) (cs' :=fr2 :: cs) (w' :=w2) ?_) (Steps.trans k2 (Steps.trans (.one (step_leave_returned k4)) (Steps.trans (step_go (fr' :={ fr2 with todo :=.code .ret :: k }) (cs' :=cs) (w' :=w4) ?_) (step_go ?_))))
  ·have hce :=callFunc_enter hF hd hb (vf.push y ++ vc) w2
   simp only [List.cons_append,List.nil_append] at ht
   rw [← hfr2]
   cases f <;> simp only [Frame.eval] at hev <;> simp [stepG,stepG.exec,hm,ht,hround,henter,stepG.apply,resolve,Deferred.ofValue,invoke,Frame.eval,hev,hy,hce]
  ·simp [stepG,stepG.exec,Frame.finish,hm2,ht2,hend]
  ·simp [stepG,stepG.exec,hm2,hround2]
end
end
end Go.Abs

/-! Pure calls: over any heap, and nothing of it is touched. -/
namespace Go.Abs
open Go
noncomputable section
def noL:Nat → Prop :=fun _ => False
def Pure (P:Program) (f:FuncId) (args:List AV) (v:AV):Prop :=Live noL v ∧ ∀ B H,CSem P B f args H (.ret v) H
def PureR (P:Program) (f:FuncId) (args:List AV) (R:List Nat) (o:Nat → AObj) (v:AV):Prop :=∀ B H,(∀ x,x ∈ R → H.o x = o x) → CSem P B f args H (.ret v) H
def AH.nil:AH :=⟨0,0,fun _ => .hole⟩
theorem HRel.ofNil {g:Gh} {B:Nat} {w:World} {H:AH} (h:HRel g B w H):HRel g w.heap.size w AH.nil where
 wf :=fun _ _ => rfl
 ge :=fun _ h => absurd rfl h
 inj :=fun _ _ h => absurd rfl h
 rel :=fun _ => trivial
 live :=fun _ => trivial
 kp :=fun _ => trivial
 imz :=h.imz
 hB :=Nat.le_refl _
 gl :=h.gl
theorem not_owned_nil (g:Gh) (k:Nat):¬ Owned g AH.nil k :=fun ⟨_,h,_⟩ => h rfl
theorem Out.beside {g g':Gh} {B:Nat} {w w':World} {H H':AH} (h:HRel g B w H) (ho:Out g w.heap.size w AH.nil g' w' H') :
  Out g B w H { g' with ob :=g.ob,cn :=g.cn,cb :=g.cb,cc :=g.cc } w' H :=by
 let g2:Gh :={ g' with ob :=g.ob,cn :=g.cn,cb :=g.cb,cc :=g.cc }
 have hx:Ext H.L g w g2 w' :=⟨fun _ _ => rfl,fun _ _ => Nat.le_refl _,fun _ _ _ => ⟨rfl,rfl⟩,ho.ext.im,ho.ext.cell⟩
 have hbk:∀ x i,g2.bk x i = g.bk x i :=fun x i => by cases x <;> rfl
 refine ⟨⟨h.wf,fun i hi => ?_,fun i j hi hj e => ?_,fun i => ?_,h.live,h.kp,ho.rel.imz,Nat.le_trans h.hB ho.below.size,ho.rel.gl⟩,hx,ho.below.mono h.hB,fun _ hi => hi,fun k hk _ => ho.frame k hk (not_owned_nil g k),?_⟩
 ·rw [hbk];exact ⟨(h.ge i hi).1,Nat.lt_of_lt_of_le (h.ge i hi).2 ho.below.size⟩
 ·rw [hbk,hbk] at e;exact h.inj i j hi hj e
 ·by_cases e:H.o i = .hole
  ·rw [e];trivial
  ·have hf :=ho.frame _ (h.ge i e).2 (not_owned_nil g _)
   exact (h.rel i).ext hx (h.live i) e hf.1 hf.2 rfl
 ·rintro k ⟨i,hi,e⟩
  rw [hbk] at e
  exact .inl ⟨i,hi,e⟩
theorem VRel.noref {g g':Gh} {w:World} {v:AV} {u:Value} (hv:VRel g w v u) (hl:Live noL v) (him:g'.im = g.im):VRel g' w v u :=
 hv.ext (L :=noL) ⟨fun _ h => h.elim,fun _ h => h.elim,fun _ h => h.elim,fun b => by rw [him];exact Nat.le_refl _,fun _ _ _ => rfl⟩ v u hl
theorem Live.ofNo {L:Nat → Prop} {v:AV} (h:Live noL v):Live L v :=h.mono fun _ h => h.elim
theorem Lives.ofNo {L:Nat → Prop} {vs:List AV} (h:Lives noL vs):Lives L vs :=h.mono fun _ h => h.elim
def Wk (v v':AV):Prop :=∀ g w u,VRel g w v u → VRel g w v' u
theorem pure_of {P:Program} {f:FuncId} {args:List AV} {v v':AV} (h:∀ B,∃ H',CSem P B f args AH.nil (.ret v) H') (ha:Lives noL args) (hw:Wk v v') (hl:Live noL v'):Pure P f args v' :=by
 refine ⟨hl,fun B H g vs cs w hr hv _ => ?_⟩
 obtain ⟨H',hc⟩ :=h w.heap.size
 obtain ⟨g',fr',w',h1,h2,h3,u,h4,h5,h6⟩ :=hc g vs cs w hr.ofNil hv ha.ofNo
 exact ⟨_,fr',w',h1.beside hr,h2,h3,u,h4,(hw _ _ _ h5).noref hl rfl,hl.ofNo⟩
/-! The owner of a list's spare places is forgotten. -/
mutual
def wk:AV → AV
 | .lst xs n own => match own with
  | .full => .lst (wkl xs) n .full
  | _ => .lst (wkl xs) n .no
 | .iface t v => .iface t (wk v)
 | .agg cs => .agg (wkl cs)
 | .tup cs => .tup (wkl cs)
 | .lptr xs off => .lptr (wkl xs) off
 |v => v
def wkl:List AV → List AV
 | [] => []
 |x :: xs => wk x :: wkl xs
end
theorem wkl_length:∀ xs:List AV,(wkl xs).length = xs.length
 | [] => rfl
 |x :: xs => by simp [wkl,wkl_length xs]
mutual
theorem wk_ok (g:Gh) (w:World):∀ (v:AV) (u:Value),VRel g w v u → VRel g w (wk v) u
 | .unk,_,h => h
 | .int _ _,_,h => h
 | .bool _,_,h => h
 | .str _,_,h => h
 | .nilp,_,h => h
 | .ptr _ _,_,h => h
 | .lptr xs off,v,h => by
  simp only [wk,VRel] at h ⊢
  obtain ⟨b,o0,hv,hb,hr⟩ :=h
  exact ⟨b,o0,hv,by rw [wkl_length];exact hb,wkl_cells g w xs b o0 hr⟩
 | .gp _ _,_,h => h
 | .nils,_,h => h
 | .slc _ _ _ _,_,h => h
 | .lst xs n own,v,h => by
  simp only [VRel] at h
  obtain ⟨b,off,cap,hv,hn,hb,hr,ho⟩ :=h
  cases own with
  |no => simp only [wk,VRel];exact ⟨b,off,cap,hv,hn,by rw [wkl_length];exact hb,wkl_cells g w xs b off hr,trivial⟩
  |full => simp only [wk,VRel];exact ⟨b,off,cap,hv,hn,by rw [wkl_length];exact hb,wkl_cells g w xs b off hr,ho⟩
  |ch c => simp only [wk,VRel];exact ⟨b,off,cap,hv,hn,by rw [wkl_length];exact hb,wkl_cells g w xs b off hr,trivial⟩
 | .nilm,_,h => h
 | .map _,_,h => h
 | .nilf,_,h => h
 | .func _ _ _,_,h => h
 | .yld _,_,h => h
 | .nili,_,h => h
 | .iface t a,v,h => by
  simp only [wk,VRel] at h ⊢
  obtain ⟨u,hv,h1⟩ :=h
  exact ⟨u,hv,wk_ok g w a u h1⟩
 | .agg cs,v,h => by
  simp only [wk,VRel] at h ⊢
  obtain ⟨vs,hv,h1⟩ :=h
  exact ⟨vs,hv,wkl_vals g w cs _ h1⟩
 | .tup cs,v,h => by
  simp only [wk,VRel] at h ⊢
  obtain ⟨vs,hv,h1⟩ :=h
  exact ⟨vs,hv,wkl_vals g w cs _ h1⟩
theorem wkl_cells (g:Gh) (w:World):∀ (xs:List AV) (b off:Nat),LRel g w xs b off → LRel g w (wkl xs) b off
 | [],_,_,_ => trivial
 |x :: xs,b,off,h => by
  simp only [wkl,LRel] at h ⊢
  obtain ⟨⟨u,hu,hv⟩,hr⟩ :=h
  exact ⟨⟨u,hu,wk_ok g w x u hv⟩,wkl_cells g w xs b (off + 1) hr⟩
theorem wkl_vals (g:Gh) (w:World):∀ (xs:List AV) (vs:List Value),VRels g w xs vs → VRels g w (wkl xs) vs
 | [],_,h => h
 |x :: xs,vs,h => by
  simp only [wkl,VRels] at h ⊢
  obtain ⟨u,us,e,h1,h2⟩ :=h
  exact ⟨u,us,e,wk_ok g w x u h1,wkl_vals g w xs us h2⟩
end
mutual
theorem wk_live {L:Nat → Prop}:∀ (v:AV),Live L v → Live L (wk v)
 | .unk,h => h
 | .int _ _,h => h
 | .bool _,h => h
 | .str _,h => h
 | .nilp,h => h
 | .ptr _ _,h => h
 | .lptr xs _,h => wkl_live xs h
 | .gp _ _,h => h
 | .nils,h => h
 | .slc _ _ _ _,h => h
 | .lst xs _ .no,h => ⟨wkl_live xs h.1,fun _ e => by cases e⟩
 | .lst xs _ .full,h => ⟨wkl_live xs h.1,fun _ e => by cases e⟩
 | .lst xs _ (.ch _),h => ⟨wkl_live xs h.1,fun _ e => by cases e⟩
 | .nilm,h => h
 | .map _,h => h
 | .nilf,h => h
 | .func _ _ _,h => h
 | .yld _,h => h
 | .nili,h => h
 | .iface _ a,h => wk_live a h
 | .agg cs,h => wkl_live cs h
 | .tup cs,h => wkl_live cs h
theorem wkl_live {L:Nat → Prop}:∀ (xs:List AV),Lives L xs → Lives L (wkl xs)
 | [],h => h
 |x :: xs,h => ⟨wk_live x h.1,wkl_live xs h.2⟩
end
theorem Pure.ofWk {P:Program} {f:FuncId} {args:List AV} {v:AV} (h:Pure P f (wkl args) v):Pure P f args v :=
 ⟨h.1,fun B H g vs cs w hr hv hl => h.2 B H g vs cs w hr (wkl_vals g w args _ hv) (wkl_live args hl)⟩
theorem Wk.wk (v:AV):Wk v (wk v) :=fun g w u h => wk_ok g w v u h
theorem Wk.refl (v:AV):Wk v v :=fun _ _ _ h => h
/-! ### No references -/
mutual
def noref:AV → Bool
 | .ptr _ _ => false
 | .lptr xs _ => norefs xs
 | .slc _ _ _ _ => false
 | .lst xs _ own => match own with
  | .ch _ => false
  | _ => norefs xs
 | .map _ => false
 | .func _ f c => norefs f && norefs c
 | .yld _ => false
 | .iface _ v => noref v
 | .agg cs => norefs cs
 | .tup cs => norefs cs
 | _ => true
def norefs:List AV → Bool
 | [] => true
 |x :: xs => match noref x with
  |true => norefs xs
  |false => false
end
mutual
theorem noref_ok:∀ (v:AV),noref v = true → Live noL v
 | .unk,_ => trivial
 | .int _ _,_ => trivial
 | .bool _,_ => trivial
 | .str _,_ => trivial
 | .nilp,_ => trivial
 | .ptr _ _,h => by simp [noref] at h
 | .lptr xs _,h => norefs_ok xs (by simpa [noref] using h)
 | .gp _ _,_ => trivial
 | .nils,_ => trivial
 | .slc _ _ _ _,h => by simp [noref] at h
 | .lst xs _ .no,h => ⟨norefs_ok xs (by simpa [noref] using h),fun _ e => by cases e⟩
 | .lst xs _ .full,h => ⟨norefs_ok xs (by simpa [noref] using h),fun _ e => by cases e⟩
 | .lst xs _ (.ch _),h => by simp [noref] at h
 | .nilm,_ => trivial
 | .map _,h => by simp [noref] at h
 | .nilf,_ => trivial
 | .func _ f c,h => by
  simp only [noref,Bool.and_eq_true] at h
  exact ⟨norefs_ok f h.1,norefs_ok c h.2⟩
 | .yld _,h => by simp [noref] at h
 | .nili,_ => trivial
 | .iface _ a,h => noref_ok a (by simpa [noref] using h)
 | .agg cs,h => norefs_ok cs (by simpa [noref] using h)
 | .tup cs,h => norefs_ok cs (by simpa [noref] using h)
theorem norefs_ok:∀ (xs:List AV),norefs xs = true → Lives noL xs
 | [],_ => trivial
 |x :: xs,h => by
  simp only [norefs] at h
  split at h
  ·rename_i hx
   exact ⟨noref_ok x hx,norefs_ok xs h⟩
  ·cases h
end
end
end Go.Abs

/-! Regions whose order is drawn: the order of the text stands for all. -/
namespace Go.Abs
open Go
noncomputable section
theorem EvF.slot {s s':Nat}:∀ (p:Plan) (o:Nat → AObj) (r:PRes) (R:List Nat),EvF s p o r R [] → EvF s' p o r R []
 | .ret _,_,_,_,h => h
 | .skip,_,_,_,h => h
 | .fail,_,_,_,h => h
 | .chk _ k,o,r,R,h => ⟨h.1,EvF.slot k o r R h.2⟩
 | .fL xs k,o,r,R,h => EvF.slot (k xs) o r R h
 | .get i k,o,r,R,h => by
  obtain ⟨R',e,h1⟩ :=h
  exact ⟨R',e,EvF.slot (k (o i)) o r R' h1⟩
 | .setcs i off vs k,o,r,R,h => by
  obtain ⟨R',W',t,n,ty,t',e,h1,h2,h3,h4,h5⟩ :=h
  cases h4
 | .seto i x rb k,o,r,R,h => by
  obtain ⟨R',W',e,h1,h2⟩ :=h
  cases h1
 | .newl cs ty k,o,r,R,h => by
  obtain ⟨W',t,h1,h2,h3⟩ :=h
  cases h2
 | .newc n x ty k,o,r,R,h => by
  obtain ⟨W',t,h1,h2,h3⟩ :=h
  cases h2
 | .newo x _ k,o,r,R,h => by
  obtain ⟨W',h1,h2⟩ :=h
  cases h1
 | .call _ _,_,_,_,h => h
 | .yld _ _,_,_,_,h => h
 | .defr _ _,_,_,_,h => h
 | .recover,_,_,_,h => h
 | .panic _,_,_,_,h => h
theorem Tr.set_ex {α:Type}:∀ (t:Tr α) (d:Nat) (x y:α),t.get d = some y → ∃ t':Tr α,∀ j,t'.get j = if j = d then some x else t.get j
 | .nil,d,x,y,h => by rw [Tr.get_nil] at h;cases h
 | .node v l r,d,x,y,h => by
  cases d with
  |zero =>
   refine ⟨.node x l r,fun j => ?_⟩
   cases j with
   |zero => rfl
   |succ j => rw [if_neg (by omega)];exact Tr.get_top _ _ _ _ _
  |succ d =>
   by_cases hd:d % 2 = 0
   ·rw [Tr.get_node_even v l r hd] at h
    obtain ⟨l',hl⟩ :=Tr.set_ex l (d / 2) x y h
    refine ⟨.node v l' r,fun j => ?_⟩
    cases j with
    |zero => rfl
    |succ j =>
     by_cases hj:j % 2 = 0
     ·rw [Tr.get_node_even _ _ _ hj,Tr.get_node_even _ _ _ hj,hl]
      by_cases e:j = d
      ·subst e;simp
      ·rw [if_neg (by omega),if_neg (by omega)]
     ·rw [Tr.get_node_odd _ _ _ hj,Tr.get_node_odd _ _ _ hj,if_neg (by intro e;omega)]
   ·rw [Tr.get_node_odd v l r hd] at h
    obtain ⟨r',hr⟩ :=Tr.set_ex r (d / 2) x y h
    refine ⟨.node v l r',fun j => ?_⟩
    cases j with
    |zero => rfl
    |succ j =>
     by_cases hj:j % 2 = 0
     ·rw [Tr.get_node_even _ _ _ hj,Tr.get_node_even _ _ _ hj,if_neg (by intro e;omega)]
     ·rw [Tr.get_node_odd _ _ _ hj,Tr.get_node_odd _ _ _ hj,hr]
      by_cases e:j = d
      ·subst e;simp
      ·rw [if_neg (by omega),if_neg (by omega)]
theorem AH.put_comm (H:AH) {i j:Nat} (x y:AObj) (r q:Nat) (h:i ≠ j):(H.put i x r).put j y q = (H.put j y q).put i x r :=by
 unfold AH.put
 simp only [AH.mk.injEq]
 refine ⟨by omega,?_,?_⟩
 ·by_cases h1:r ≤ i + 1 <;> by_cases h2:q ≤ j + 1 <;> simp [h1,h2] <;> omega
 ·funext k
  unfold upd
  by_cases h1:k = i <;> by_cases h2:k = j <;> simp [h1,h2] <;> omega
def idxs (W:WL):List Nat :=W.map (·.1)
theorem AH.app_o:∀ (W:WL) (H:AH) (k:Nat),k ∉ idxs W → (H.app W).o k = H.o k
 | [],_,_,_ => rfl
 |(i,x,r) :: W,H,k,h => by
  simp only [idxs,List.map_cons,List.mem_cons,not_or] at h
  have :=AH.app_o W (H.put i x r) k h.2
  rw [AH.app,this]
  exact upd_ne _ _ h.1
theorem AH.app_put:∀ (W:WL) (H:AH) {i:Nat} (x:AObj) (r:Nat),i ∉ idxs W → (H.put i x r).app W = (H.app W).put i x r
 | [],_,_,_,_,_ => rfl
 |(j,y,q) :: W,H,i,x,r,h => by
  simp only [idxs,List.map_cons,List.mem_cons,not_or] at h
  rw [AH.app,AH.app,AH.put_comm H x y r q h.1]
  exact AH.app_put W _ x r h.2
theorem AH.app_comm:∀ (W W':WL) (H:AH),(∀ i,i ∈ idxs W → i ∉ idxs W') → (H.app W).app W' = (H.app W').app W
 | [],_,_,_ => rfl
 |(i,x,r) :: W,W',H,h => by
  rw [AH.app,AH.app_comm W W' _ fun k hk => h k (by simp only [idxs,List.map_cons,List.mem_cons];exact .inr hk),AH.app_put W' H x r (h i (by simp [idxs]))]
  rfl
/-! ### An operation sees its operands alone -/
theorem pOp_congr {P:Program} {T:Tr TypeInfo} {F:Tr Func} {X:XT} {ev ev':Operand → AV} (o:Oper) (h:∀ x ∈ o.op.operands,ev x = ev' x):pOp P T F X ev o = pOp P T F X ev' o :=by
 obtain ⟨dst,op,type,pos,after,guard⟩ :=o
 have pairs:∀ ps:Array (Nat × Operand),(∀ x ∈ (ps.toList.map (·.2)).toArray,ev x = ev' x) → (ps.toList.map fun p => (p.1,ev p.2)) = (ps.toList.map fun p => (p.1,ev' p.2)) :=fun ps hp =>
  List.map_congr_left fun p hm => by
   obtain ⟨i,x⟩ :=p
   simp only [hp x (by simp only [List.mem_toArray,List.mem_map];exact ⟨(i,x),hm,rfl⟩)]
 have args:∀ xs:Array Operand,(∀ x ∈ xs,ev x = ev' x) → xs.toList.map ev = xs.toList.map ev' :=fun xs hp => List.map_congr_left fun x hx => hp x (by simpa using hx)
 rw [pOp_eq,pOp_eq]
 cases op <;> simp only [Op.operands] at h <;> simp only [pOpM]
 case build t ps => rw [pairs ps h]
 case buildSlice t n ps => rw [pairs ps h]
 case makeFunc fn first captured => rw [args first fun x hx => h x (by simp [hx]),args captured fun x hx => h x (by simp [hx])]
 case slice t x lo hi mx => cases lo <;> cases hi <;> cases mx <;> simp_all
 case call c =>
  have ha :=args c.args fun x hx => h x (by simp [Call.operands,hx])
  cases hc:c.callee with
  |builtin b => simp only [ha]
  |value f => simp only [ha,h f (by simp [Call.operands,hc])]
  |invoke r m => simp only [ha,h r (by simp [Call.operands,hc])]
 case defer c =>
  have ha :=args c.args fun x hx => h x (by simp [Call.operands,hx])
  cases hc:c.callee with
  |value f => simp only [ha,h f (by simp [Call.operands,hc])]
  | _ => rfl
 all_goals (first | rfl | (simp_all;done))
/-! ### Records -/
inductive RK where
 |off
 |val
 |skip
 |call (f:FuncId) (args:List AV)
 |pure (f:FuncId) (args:List AV)
 |yld
structure Rec where
 k:RK
 v:AV
 R:List Nat
 W:WL
 U:List Nat
 n0:Nat
def Rec.isCall (r:Rec):Bool :=match r.k with | .call _ _ => true | .yld => true | _ => false
def Rec.isYld (r:Rec):Bool :=match r.k with | .yld => true | _ => false
section
variable {P:Program} {T:Tr TypeInfo} {F:Tr Func} {X:XT} {B:Nat} {ops:Array Oper} {base:Nat}
def RKOk (P:Program) (T:Tr TypeInfo) (F:Tr Func) (X:XT) (B:Nat) (ops:Array Oper) (s:Nat) (o:Oper) (r:Rec) (tm:Tr AV) (H H':AH):Prop :=
 match r.k with
 | .off => guardA ops tm o = some false ∧ r.v = .tup [] ∧ r.W = [] ∧ H' = H
 | .val => guardA ops tm o = some true ∧ (r.W ≠ [] → H.o s = .hole) ∧ EvF s (pOp P T F X (aev tm) o) H.o (.val r.v) r.R r.W ∧ H' = H.app r.W
 | .skip => guardA ops tm o = some true ∧ (r.W ≠ [] → H.o s = .hole) ∧ EvF s (pOp P T F X (aev tm) o) H.o .skip r.R r.W ∧ r.v = .tup [] ∧ H' = H.app r.W
 | .call f args => guardA ops tm o = some true ∧ r.W = [] ∧ EvF s (pOp P T F X (aev tm) o) H.o (.call f args) r.R [] ∧ CSem P B f args H (.ret r.v) H' ∧ ∀ x,x < r.n0 → x ∉ r.U → H'.o x = H.o x
 | .pure f args => guardA ops tm o = some true ∧ r.W = [] ∧ (∃ R0,(∀ x,x ∈ R0 → x ∈ r.R) ∧ EvF s (pOp P T F X (aev tm) o) H.o (.call f args) R0 []) ∧ PureR P f args r.R H.o r.v ∧ H' = H
 | .yld => True
structure RStep (P:Program) (T:Tr TypeInfo) (F:Tr Func) (X:XT) (B:Nat) (ops:Array Oper) (base:Nat) (i:Nat) (r:Rec) (σ σ':St):Prop where
 df:σ'.df = σ.df
 pm:σ'.pm = σ.pm
 rd:σ'.rd = σ.rd
 ex:∃ o,ops[i]? = some o ∧ SetD σ.tm o.dst r.v σ'.tm ∧ RKOk P T F X B ops (base + i) o r σ.tm σ.H σ'.H
 op:r.isYld = true → OpS P B ops i σ .normal σ'
theorem RStep.opS (hT:TOK P T) (hF:FOK P F) (hX:XOK P X) {i:Nat} {r:Rec} {σ σ':St} (h:RStep P T F X B ops base i r σ σ'):OpS P B ops i σ .normal σ' :=by
 obtain ⟨h1,h2,h3,⟨o,ho,hs,hk⟩,hy⟩ :=h
 obtain ⟨tm',df',pm',rd',H'⟩ :=σ'
 simp only at h1 h2 h3 hs hk
 subst h1 h2 h3
 obtain ⟨k,v,R,W,U,n0⟩ :=r
 simp only at hs
 unfold RKOk at hk
 simp only at hk
 cases k with
 |off =>
  obtain ⟨k1,rfl,rfl,rfl⟩ :=hk
  exact OpS.skip ho k1 hs
 |val =>
  obtain ⟨k1,k2,k3,rfl⟩ :=hk
  by_cases hW:W = []
  ·subst hW
   exact fun g fr cs w rest k hr hm ht => OpS.val hT hF hX ho k1 (hr.h.wf _ (Nat.le_refl _)) k3.slot hs g fr cs w rest k hr hm ht
  ·exact OpS.val hT hF hX ho k1 (k2 hW) k3 hs
 |skip =>
  obtain ⟨k1,k2,k3,rfl,rfl⟩ :=hk
  by_cases hW:W = []
  ·subst hW
   exact fun g fr cs w rest k hr hm ht => OpS.none hT hF hX ho k1 (hr.h.wf _ (Nat.le_refl _)) k3.slot hs g fr cs w rest k hr hm ht
  ·exact OpS.none hT hF hX ho k1 (k2 hW) k3 hs
 |call f args =>
  obtain ⟨k1,rfl,k3,k4,_⟩ :=hk
  exact fun g fr cs w rest k hr hm ht => OpS.call hT hF hX ho k1 (hr.h.wf _ (Nat.le_refl _)) k3.slot k4 hs g fr cs w rest k hr hm ht
 |pure f args =>
  obtain ⟨k1,rfl,⟨R0,_,k3⟩,k4,rfl⟩ :=hk
  exact fun g fr cs w rest k hr hm ht => OpS.call hT hF hX ho k1 (hr.h.wf _ (Nat.le_refl _)) k3.slot (k4 B _ fun _ _ => rfl) hs g fr cs w rest k hr hm ht
 |yld => exact hy rfl
def HInd (base i:Nat) (ri:Rec) (j:Nat) (rj:Rec):Prop :=
 (ri.isYld = false ∧ rj.isYld = false) ∧ match ri.isCall,rj.isCall with
 |true,true => False
 |true,false => rj.W = [] ∧ ∀ x,x ∈ rj.R → x < ri.n0 ∧ x ∉ ri.U
 |false,true => ri.W = [] ∧ ∀ x,x ∈ ri.R → x < rj.n0 ∧ x ∉ rj.U
 |false,false => (∀ x,x ∈ idxs ri.W → x ≠ base + j ∧ x ∉ rj.R ∧ x ∉ idxs rj.W) ∧ (∀ x,x ∈ idxs rj.W → x ≠ base + i ∧ x ∉ ri.R)
theorem aev_set {tm tm':Tr AV} {d:Option Tmp} {v:AV} (h:SetD tm d v tm') {x:Operand} (hx:∀ t,d = some t → x ≠ .tmp t):aev tm' x = aev tm x :=by
 cases d with
 |none =>
  have h:tm' = tm :=h
  rw [h]
 |some t =>
  cases x with
  |tmp j =>
   have hne:j ≠ t :=fun e => hx t rfl (by rw [e])
   rw [aev_tmp,aev_tmp,h.2 j,if_neg hne]
  | _ => rfl
theorem guardA_set {tm tm':Tr AV} {d:Option Tmp} {v:AV} (h:SetD tm d v tm') {o:Oper} (hx:∀ t,d = some t → t ∉ o.looksAt ops):guardA ops tm' o = guardA ops tm o :=by
 cases d with
 |none =>
  have h:tm' = tm :=h
  rw [h]
 |some t =>
  rw [guardA_eq,guardA_eq]
  unfold guardM
  cases hg:o.guard with
  |none => rfl
  |some p =>
   obtain ⟨j,want⟩ :=p
   simp only
   cases hj:ops[j]? with
   |none => rfl
   |some oj =>
    simp only
    cases hd:oj.dst with
    |none => rfl
    |some d' =>
     have hne:d' ≠ t :=fun e => hx t rfl (by subst e;simp [Oper.looksAt,hg,hj,hd])
     simp only
     rw [h.2 d',if_neg hne]
theorem pOp_set {tm tm':Tr AV} {d:Option Tmp} {v:AV} (h:SetD tm d v tm') {o:Oper} (hx:∀ t,d = some t → t ∉ o.looksAt ops):pOp P T F X (aev tm') o = pOp P T F X (aev tm) o :=
 pOp_congr o fun x hm => aev_set h fun t hd hxt => hx t hd (by
  subst hxt
  exact List.mem_append_left _ (List.mem_filterMap.2 ⟨.tmp t,by simpa using hm,rfl⟩))
end
end
end Go.Abs

/-! Regions whose order is drawn: the order of the text stands for all (on). -/
namespace Go.Abs
open Go
noncomputable section
section
variable {P:Program} {T:Tr TypeInfo} {F:Tr Func} {X:XT} {B:Nat} {ops:Array Oper} {base:Nat}
theorem RKOk.frame {s:Nat} {o:Oper} {r:Rec} {tm tm1:Tr AV} {H H1 H':AH} (hc:r.isCall = false) (h:RKOk P T F X B ops s o r tm H H') (hg:guardA ops tm1 o = guardA ops tm o) (hp:pOp P T F X (aev tm1) o = pOp P T F X (aev tm) o)
  (hR:∀ x,x ∈ r.R → H1.o x = H.o x) (hs:r.W ≠ [] → H.o s = .hole → H1.o s = .hole):H' = H.app r.W ∧ RKOk P T F X B ops s o r tm1 H1 (H1.app r.W) :=by
 obtain ⟨k,v,R,W,U,n0⟩ :=r
 unfold RKOk at h ⊢
 simp only at h hR hs ⊢
 rw [hg,hp]
 cases k with
 |off =>
  obtain ⟨k1,k2,rfl,rfl⟩ :=h
  exact ⟨rfl,k1,k2,rfl,rfl⟩
 |val =>
  obtain ⟨k1,k2,k3,rfl⟩ :=h
  exact ⟨rfl,k1,fun hW => hs hW (k2 hW),k3.agree _ _ _ _ _ _ hR,trivial⟩
 |skip =>
  obtain ⟨k1,k2,k3,k4,rfl⟩ :=h
  exact ⟨rfl,k1,fun hW => hs hW (k2 hW),k3.agree _ _ _ _ _ _ hR,k4,trivial⟩
 |call f args => simp [Rec.isCall] at hc
 |yld => simp [Rec.isCall] at hc
 |pure f args =>
  obtain ⟨k1,rfl,⟨R0,k0,k3⟩,k4,rfl⟩ :=h
  exact ⟨rfl,k1,rfl,⟨R0,k0,k3.agree _ _ _ _ _ _ fun x hx => hR x (k0 x hx)⟩,fun B H2 h2 => k4 B H2 fun x hx => (h2 x hx).trans (hR x hx),rfl⟩
theorem RKOk.keeps {s:Nat} {o:Oper} {r:Rec} {tm:Tr AV} {H H':AH} (hc:r.isCall = true) (hy:r.isYld = false) (h:RKOk P T F X B ops s o r tm H H'):∀ x,x < r.n0 → x ∉ r.U → H'.o x = H.o x :=by
 obtain ⟨k,v,R,W,U,n0⟩ :=r
 unfold RKOk at h
 simp only at h ⊢
 cases k with
 |call f args => exact h.2.2.2.2
 |yld => simp [Rec.isYld] at hy
 | _ => simp [Rec.isCall] at hc
theorem RKOk.tm {s:Nat} {o:Oper} {r:Rec} {tm tm1:Tr AV} {H H':AH} (h:RKOk P T F X B ops s o r tm H H') (hg:guardA ops tm1 o = guardA ops tm o) (hp:pOp P T F X (aev tm1) o = pOp P T F X (aev tm) o):RKOk P T F X B ops s o r tm1 H H' :=by
 unfold RKOk at h ⊢
 rw [hg,hp]
 exact h
theorem SetD.look {tm tm':Tr AV} {d:Option Tmp} {v:AV} (h:SetD tm d v tm') (j:Nat):tm'.get j = if d = some j then some v else tm.get j :=by
 cases d with
 |none =>
  have h:tm' = tm :=h
  rw [h];simp
 |some t =>
  rw [h.2 j]
  by_cases e:j = t
  ·subst e;simp
  ·rw [if_neg e,if_neg (by intro h;cases h;exact e rfl)]
theorem SetD.ex {tm:Tr AV} {d:Option Tmp} {v:AV} (h:∀ t,d = some t → ∃ y,tm.get t = some y):∃ tm',SetD tm d v tm' :=by
 cases d with
 |none => exact ⟨tm,rfl⟩
 |some t =>
  obtain ⟨y,hy⟩ :=h t rfl
  obtain ⟨t',ht⟩ :=Tr.set_ex tm t v y hy
  exact ⟨t',⟨y,hy⟩,ht⟩
theorem RStep.swap {j i:Nat} {rj ri:Rec} {σ σ1 σ2:St} (hj:RStep P T F X B ops base j rj σ σ1) (hi:RStep P T F X B ops base i ri σ1 σ2)
  (ha:∀ oj oi,ops[j]? = some oj → ops[i]? = some oi → oj.apart ops oi = true) (_hne:base + j ≠ base + i) (hind:HInd base j rj i ri) :
  ∃ σ1',RStep P T F X B ops base i ri σ σ1' ∧ RStep P T F X B ops base j rj σ1' σ2 :=by
 obtain ⟨a1,a2,a3,⟨oj,hoj,sj,kj⟩,_⟩ :=hj
 obtain ⟨b1,b2,b3,⟨oi,hoi,si,ki⟩,_⟩ :=hi
 obtain ⟨⟨yj,yi⟩,hind⟩ :=hind
 obtain ⟨h1,h2,h3⟩ :=Oper.apart_spec (ha oj oi hoj hoi)
 have hdi:∀ t,oi.dst = some t → ∃ y,σ.tm.get t = some y :=fun t ht => by
  rw [ht] at si
  obtain ⟨⟨y,hy⟩,_⟩ :=si
  rw [sj.look] at hy
  rw [if_neg (fun e => h2 t e ht)] at hy
  exact ⟨y,hy⟩
 obtain ⟨tm',st,st2⟩ : ∃ tm',SetD σ.tm oi.dst ri.v tm' ∧ SetD tm' oj.dst rj.v σ2.tm :=by
  cases hd:oj.dst with
  |none =>
   rw [hd] at sj
   have e1:σ1.tm = σ.tm :=sj
   rw [e1] at si
   exact ⟨σ2.tm,si,rfl⟩
  |some t =>
   obtain ⟨tm',st⟩ :=SetD.ex (v :=ri.v) hdi
   refine ⟨tm',st,?_,fun k => ?_⟩
   ·rw [hd] at sj
    obtain ⟨⟨y,hy⟩,_⟩ :=sj
    refine ⟨y,?_⟩
    rw [st.look,if_neg (fun e => h2 t hd e)]
    exact hy
   ·rw [si.look,st.look,sj.look,hd]
    by_cases e:k = t
    ·subst e
     rw [if_neg (fun e => h2 k hd e)]
     simp
    ·rw [if_neg (show ¬ some t = some k by intro h;cases h;exact e rfl),if_neg e]
 have gi:guardA ops σ.tm oi = guardA ops σ1.tm oi :=(guardA_set sj h1).symm
 have pi:pOp P T F X (aev σ.tm) oi = pOp P T F X (aev σ1.tm) oi :=(pOp_set sj h1).symm
 have gj:guardA ops tm' oj = guardA ops σ.tm oj :=guardA_set st h3
 have pj:pOp P T F X (aev tm') oj = pOp P T F X (aev σ.tm) oj :=pOp_set st h3
 cases hcj:rj.isCall with
 |true =>
  rw [hcj] at hind
  cases hci:ri.isCall with
  |true => rw [hci] at hind;exact hind.elim
  |false =>
   rw [hci] at hind
   obtain ⟨hW,hR⟩ :=hind
   obtain ⟨k1,k2⟩ :=ki.frame hci (tm1 :=σ.tm) (H1 :=σ.H) gi pi (fun x hx => (kj.keeps hcj yj x (hR x hx).1 (hR x hx).2).symm) (fun h => absurd hW h)
   rw [hW] at k1 k2
   have k1:σ2.H = σ1.H :=k1
   refine ⟨{ σ with tm :=tm' },⟨rfl,rfl,rfl,⟨oi,hoi,st,k2⟩,fun e => by rw [yi] at e;cases e⟩,⟨b1.trans a1,b2.trans a2,b3.trans a3,⟨oj,hoj,st2,?_⟩,fun e => by rw [yj] at e;cases e⟩⟩
   rw [k1]
   exact kj.tm gj pj
 |false =>
  rw [hcj] at hind
  cases hci:ri.isCall with
  |true =>
   rw [hci] at hind
   obtain ⟨hW,hR⟩ :=hind
   have k1 :=(kj.frame hcj (tm1 :=σ.tm) (H1 :=σ.H) rfl rfl (fun _ _ => rfl) (fun _ h => h)).1
   rw [hW] at k1
   have k1:σ1.H = σ.H :=k1
   obtain ⟨_,k2⟩ :=kj.frame hcj (tm1 :=tm') (H1 :=σ2.H) gj pj (fun x hx => by rw [ki.keeps hci yi x (hR x hx).1 (hR x hx).2,k1]) (fun h => absurd hW h)
   rw [hW] at k2
   refine ⟨{ σ with tm :=tm',H :=σ2.H },⟨rfl,rfl,rfl,⟨oi,hoi,st,?_⟩,fun e => by rw [yi] at e;cases e⟩,⟨b1.trans a1,b2.trans a2,b3.trans a3,⟨oj,hoj,st2,k2⟩,fun e => by rw [yj] at e;cases e⟩⟩
   rw [k1] at ki
   exact ki.tm gi pi
  |false =>
   rw [hci] at hind
   obtain ⟨q1,q2⟩ :=hind
   have kj0 :=(kj.frame hcj (tm1 :=σ.tm) (H1 :=σ.H) rfl rfl (fun _ _ => rfl) (fun _ h => h)).1
   obtain ⟨k1,k2⟩ :=ki.frame hci (tm1 :=σ.tm) (H1 :=σ.H) gi pi (fun x hx => by
    rw [kj0];exact (AH.app_o _ _ _ fun h => (q1 x h).2.1 hx).symm) (fun _ h => by
    rw [kj0,AH.app_o _ _ _ fun h => (q1 _ h).1 rfl] at h;exact h)
   obtain ⟨k3,k4⟩ :=kj.frame hcj (tm1 :=tm') (H1 :=σ.H.app ri.W) gj pj (fun x hx => AH.app_o _ _ _ fun h => (q2 x h).2 hx)
    (fun _ h => by rw [AH.app_o _ _ _ fun h => (q2 _ h).1 rfl];exact h)
   refine ⟨{ σ with tm :=tm',H :=σ.H.app ri.W },⟨rfl,rfl,rfl,⟨oi,hoi,st,k2⟩,fun e => by rw [yi] at e;cases e⟩,⟨b1.trans a1,b2.trans a2,b3.trans a3,⟨oj,hoj,st2,?_⟩,fun e => by rw [yj] at e;cases e⟩⟩
   have:σ2.H = (σ.H.app ri.W).app rj.W :=by rw [k1,kj0,AH.app_comm _ _ _ fun x hx => (q1 x hx).2.2]
   rw [this]
   exact k4
/-! ### Chains of operations -/
def Chain (P:Program) (T:Tr TypeInfo) (F:Tr Func) (X:XT) (B:Nat) (ops:Array Oper) (base:Nat):List (Nat × Rec) → St → St → Prop
 | [],σ,σ' => σ' = σ
 |(i,r) :: l,σ,σ' => ∃ σ1,RStep P T F X B ops base i r σ σ1 ∧ Chain P T F X B ops base l σ1 σ'
def Ind (ops:Array Oper) (base:Nat) (a b:Nat × Rec):Prop :=
 (∀ oj oi,ops[a.1]? = some oj → ops[b.1]? = some oi → oj.apart ops oi = true) ∧ HInd base a.1 a.2 b.1 b.2
theorem Chain.front {i:Nat} {r:Rec} {post:List (Nat × Rec)} {σ':St}:∀ (pre:List (Nat × Rec)) (σ:St),Chain P T F X B ops base (pre ++ (i,r) :: post) σ σ' → (∀ a,a ∈ pre → a.1 ≠ i ∧ Ind ops base a (i,r)) →
  ∃ σ1,RStep P T F X B ops base i r σ σ1 ∧ Chain P T F X B ops base (pre ++ post) σ1 σ'
 | [],σ,h,_ => h
 |(j,rj) :: pre,σ,h,hi => by
  obtain ⟨σ1,h1,h2⟩ :=h
  obtain ⟨σ2,h3,h4⟩ :=Chain.front pre σ1 h2 fun a ha => hi a (List.mem_cons_of_mem _ ha)
  obtain ⟨hne,hap,hin⟩ :=hi (j,rj) (by simp)
  obtain ⟨σ3,h5,h6⟩ :=h1.swap h3 hap (by simp only at hne;omega) hin
  exact ⟨σ3,h5,σ2,h6,h4⟩
/-! ### The order of the edges -/
inductive Anc (ops:Array Oper):Nat → Nat → Prop
 |edge {i j:Nat} {o:Oper} {e:Edge}:ops[i]? = some o → e ∈ o.after → Region.binds .any e = true → e.on = j → Anc ops i j
 |trans {i j:Nat} {o:Oper} {e:Edge}:ops[i]? = some o → e ∈ o.after → Region.binds .any e = true → Anc ops e.on j → Anc ops i j
def DownC (ops:Array Oper) (listed:Array Bool):Prop :=
 ∀ i o,listed.getD i false = true → ops[i]? = some o → ∀ e,e ∈ o.after → Region.binds .any e = true → listed.getD e.on false = true
theorem Anc.listed {listed:Array Bool} (hd:DownC ops listed) {i j:Nat} (h:Anc ops i j):listed.getD i false = true → listed.getD j false = true :=by
 induction h with
 |edge h1 h2 h3 h4 => intro hl;subst h4;exact hd _ _ hl h1 _ h2 h3
 |trans h1 h2 h3 _ ih => intro hl;exact ih (hd _ _ hl h1 _ h2 h3)
theorem Anc.ready {listed:Array Bool} (hd:DownC ops listed) {i j:Nat} (h:Anc ops i j) (hr:i ∈ Region.ready .any ops listed):listed.getD j false = true :=by
 obtain ⟨_,o,ho,hall⟩ :=mem_ready.1 hr
 cases h with
 |edge h1 h2 h3 h4 =>
  rw [ho] at h1;cases h1
  subst h4;exact hall _ h2 h3
 |trans h1 h2 h3 h4 =>
  rw [ho] at h1;cases h1
  exact h4.listed hd (hall _ h2 h3)
theorem lin_ok (hT:TOK P T) (hF:FOK P F) (hX:XOK P X) (htop:∀ i o,ops[i]? = some o → ∀ e,e ∈ o.after → Region.binds .any e = true → e.on < i):∀ (n:Nat) (recs:List (Nat × Rec)) (t:Nat) (listed:Array Bool) (σ σ':St),
  recs.length = n → listed.size = ops.size → DownC ops listed → (∀ i,(∃ r,(i,r) ∈ recs) ↔ (i < ops.size ∧ listed.getD i true = false)) →
  recs.Pairwise (fun a b => a.1 < b.1 ∧ (Anc ops b.1 a.1 ∨ Ind ops base a b)) → Chain P T F X B ops base recs σ σ' →
  SemT P B [.inRegion ops (Region.linearise.go .any ops n t listed [])] σ .normal σ' :=by
 intro n
 induction n with
 |zero =>
  intro recs t listed σ σ' hn _ _ _ _ hc
  have:recs = [] :=List.eq_nil_of_length_eq_zero hn
  subst this
  have hc:σ' = σ :=hc
  subst hc
  exact SemT.region_nil
 |succ n ih =>
  intro recs t listed σ σ' hn hsz hd hmem hpw hc
  have hnone:∀ i,i < ops.size → listed.getD i true = true → listed.getD i false = true :=fun i hi h => by
   have:i < listed.size :=by omega
   simpa [this] using h
  -- the first one is ready
  have hfirst:Region.ready .any ops listed ≠ [] :=by
   cases recs with
   |nil => simp at hn
   |cons p rest =>
    obtain ⟨i0,r0⟩ :=p
    have h0 :=(hmem i0).1 ⟨r0,by simp⟩
    have:i0 ∈ Region.ready .any ops listed :=by
     rw [mem_ready]
     refine ⟨h0.2,ops[i0],Array.getElem?_eq_getElem h0.1,fun e he hb => ?_⟩
     have hlt :=htop i0 _ (Array.getElem?_eq_getElem h0.1) e he hb
     apply hnone _ (by omega)
     cases hl:listed.getD e.on true with
     |true => rfl
     |false =>
      obtain ⟨r,hr⟩ :=(hmem e.on).2 ⟨by omega,hl⟩
      rcases List.mem_cons.1 hr with h | h
      ·cases h;omega
      ·have :=(List.pairwise_cons.1 hpw).1 _ h
       simp only at this;omega
    intro e
    rw [e] at this
    cases this
  simp only [Region.linearise.go]
  show SemT P B [.inRegion ops (match (Region.ready .any ops listed)[t % (Region.ready .any ops listed).length]? with
   |some i => Region.linearise.go .any ops n (t / (Region.ready .any ops listed).length) (listed.setIfInBounds i true) [i]
   |none => [].reverse)] σ .normal σ'
  cases hi:(Region.ready .any ops listed)[t % (Region.ready .any ops listed).length]? with
  |none =>
   exfalso
   cases hr:Region.ready .any ops listed with
   |nil => exact hfirst hr
   |cons x xs =>
    rw [hr] at hi
    have hlt:t % (x :: xs).length < (x :: xs).length :=Nat.mod_lt _ (by simp)
    rw [List.getElem?_eq_getElem hlt] at hi
    cases hi
  |some i =>
   simp only []
   rw [linearise_go_acc,List.reverse_singleton,List.singleton_append]
   have hir :=List.mem_of_getElem? hi
   obtain ⟨q1,o,q2,q3⟩ :=mem_ready.1 hir
   have hilt:i < ops.size :=(Array.getElem?_eq_some_iff.1 q2).1
   obtain ⟨r,hr⟩ :=(hmem i).2 ⟨hilt,q1⟩
   obtain ⟨pre,post,hsplit⟩ :=List.append_of_mem hr
   subst hsplit
   have hpw' :=List.pairwise_append.1 hpw
   have hpre:∀ a,a ∈ pre → a.1 ≠ i ∧ Ind ops base a (i,r) :=fun a ha => by
    have h1 :=hpw'.2.2 a ha (i,r) (by simp)
    refine ⟨by have :=h1.1;simp only at this;omega,?_⟩
    rcases h1.2 with h2 | h2
    ·have h3 :=h2.ready hd hir
     have h4 :=((hmem a.1).1 ⟨a.2,by simp [ha]⟩)
     have:a.1 < listed.size :=by omega
     have h5 :=h4.2
     simp [this] at h3 h5
     rw [h3] at h5
     cases h5
    ·exact h2
   obtain ⟨σ1,hs1,hs2⟩ :=Chain.front pre σ hc hpre
   refine SemT.region_cons (hs1.opS hT hF hX) (ih (pre ++ post) _ _ _ _ ?_ ?_ ?_ ?_ ?_ hs2)
   ·simp only [List.length_append,List.length_cons] at hn ⊢;omega
   ·simpa using hsz
   ·intro k ok hk hok e he hb
    by_cases hki:k = i
    ·subst hki
     rw [q2] at hok;cases hok
     exact getD_set_true (q3 e he hb)
    ·rw [getD_set_ne false (Ne.symm hki)] at hk
     exact getD_set_true (hd k ok hk hok e he hb)
   ·intro k
    constructor
    ·rintro ⟨rk,hk⟩
     have hk':(k,rk) ∈ pre ++ (i,r) :: post :=by
      rcases List.mem_append.1 hk with h | h
      ·exact List.mem_append_left _ h
      ·exact List.mem_append_right _ (List.mem_cons_of_mem _ h)
     have h1 :=(hmem k).1 ⟨rk,hk'⟩
     have hne:k ≠ i :=by
      rcases List.mem_append.1 hk with h | h
      ·have :=(hpre _ h).1;simpa using this
      ·have :=(List.pairwise_cons.1 hpw'.2.1).1 _ h
       simp only at this;omega
     exact ⟨h1.1,by rw [getD_set_ne true (Ne.symm hne)];exact h1.2⟩
    ·rintro ⟨h1,h2⟩
     have hne:k ≠ i :=by
      intro e
      subst e
      have:k < listed.size :=by omega
      simp [this] at h2
     rw [getD_set_ne true (Ne.symm hne)] at h2
     obtain ⟨rk,hk⟩ :=(hmem k).2 ⟨h1,h2⟩
     refine ⟨rk,?_⟩
     rcases List.mem_append.1 hk with h | h
     ·exact List.mem_append_left _ h
     ·rcases List.mem_cons.1 h with h | h
      ·cases h;exact absurd rfl hne
      ·exact List.mem_append_right _ h
   ·refine List.pairwise_append.2 ⟨hpw'.1,(List.pairwise_cons.1 hpw'.2.1).2,fun a ha b hb => hpw'.2.2 a ha b (List.mem_cons_of_mem _ hb)⟩
end
end
end Go.Abs

/-! Regions whose order is drawn: the check. -/
namespace Go.Abs
open Go
noncomputable section
def edgeM (acc:List Nat):List Edge → Nat → Nat
 | [],s => s
 |e :: es,s => edgeM acc es (if Region.binds .any e then s ||| 2 ^ e.on ||| acc.getD e.on 0 else s)
def ancs:List Oper → List Nat → List Nat
 | [],acc => acc
 |o :: os,acc => ancs os (acc ++ [edgeM acc o.after.toList 0])
def topGo:List Oper → Nat → Bool
 | [],_ => true
 |o :: os,i => o.after.toList.all (fun e => !Region.binds .any e || decide (e.on < i)) && topGo os (i + 1)
def pairs (A:List Nat) (n:Nat):List (Nat × Nat) :=
 (List.range n).flatMap fun i => ((List.range i).filter fun j => !((A.getD i 0).testBit j)).map fun j => (j,i)
def unord (ops:Array Oper):Option (List (Nat × Nat)) :=
 if topGo ops.toList 0 && (pairs (ancs ops.toList []) ops.size).all (fun p => match ops[p.1]? with
   |some a => match ops[p.2]? with
    |some b => a.apart ops b
    |none => false
   |none => false) then some (pairs (ancs ops.toList []) ops.size) else none
section
variable {ops:Array Oper}
def AncsOk (ops:Array Oper) (acc:List Nat):Prop :=∀ i m,acc[i]? = some m → ∀ j,m.testBit j = true → Anc ops i j
theorem edgeM_ok {acc:List Nat} {Q:Nat → Prop}:∀ (es:List Edge) (s:Nat),(∀ j,s.testBit j = true → Q j) → (∀ e,e ∈ es → Region.binds .any e = true → Q e.on ∧ ∀ j,(acc.getD e.on 0).testBit j = true → Q j) →
  ∀ j,(edgeM acc es s).testBit j = true → Q j
 | [],_,hs,_,j,h => hs j h
 |e :: es,s,hs,he,j,h => by
  refine edgeM_ok es _ ?_ (fun e' he' => he e' (List.mem_cons_of_mem _ he')) j h
  intro k hk
  split at hk
  ·rename_i hb
   obtain ⟨h1,h2⟩ :=he e (by simp) hb
   simp only [Nat.testBit_or,Bool.or_eq_true,Nat.testBit_two_pow,decide_eq_true_eq] at hk
   rcases hk with (hk | hk) | hk
   ·exact hs k hk
   ·subst hk;exact h1
   ·exact h2 k hk
  ·exact hs k hk
theorem ancs_ok:∀ (os:List Oper) (acc:List Nat) (pre:List Oper),ops.toList = pre ++ os → pre.length = acc.length → AncsOk ops acc → AncsOk ops (ancs os acc)
 | [],_,_,_,_,h => h
 |o :: os,acc,pre,hp,hl,h => by
  have ho:ops[acc.length]? = some o :=by
   rw [← Array.getElem?_toList,hp,← hl]
   simp
  refine ancs_ok os _ (pre ++ [o]) (by simp [hp]) (by simp [hl]) ?_
  intro i m hi j hj
  rw [List.getElem?_append] at hi
  split at hi
  ·exact h i m hi j hj
  ·rename_i hge
   have hi0:i = acc.length :=by
    have:i - acc.length < 1 :=by
     rcases Nat.lt_or_ge (i - acc.length) 1 with h | h
     ·exact h
     ·simp [List.getElem?_eq_none (l :=[edgeM acc o.after.toList 0]) (by simpa using h)] at hi
    omega
   subst hi0
   simp only [Nat.sub_self,List.getElem?_cons_zero,Option.some.injEq] at hi
   subst hi
   refine edgeM_ok o.after.toList 0 (fun j h => by simp at h) ?_ j hj
   intro e he hb
   refine ⟨.edge ho (by simpa using he) hb rfl,fun k hk => ?_⟩
   cases hg:acc[e.on]? with
   |none => simp [hg] at hk
   |some m =>
    simp [hg] at hk
    exact .trans ho (by simpa using he) hb (h _ m hg k hk)
theorem topGo_ok:∀ (os:List Oper) (k:Nat),topGo os k = true → ∀ i o,os[i]? = some o → ∀ e,e ∈ o.after → Region.binds .any e = true → e.on < k + i
 | [],_,_,_,_,h,_,_,_ => by simp at h
 |o :: os,k,h,i,o',hi,e,he,hb => by
  simp only [topGo,Bool.and_eq_true] at h
  cases i with
  |zero =>
   simp only [List.getElem?_cons_zero,Option.some.injEq] at hi
   subst hi
   have :=List.all_eq_true.1 h.1 e (by simpa using he)
   simpa [hb] using this
  |succ i =>
   have :=topGo_ok os (k + 1) h.2 i o' (by simpa using hi) e he hb
   omega
theorem unord_ok {U:List (Nat × Nat)} (h:unord ops = some U):(∀ i o,ops[i]? = some o → ∀ e,e ∈ o.after → Region.binds .any e = true → e.on < i) ∧
  ∀ j i,j < i → i < ops.size → Anc ops i j ∨ ((j,i) ∈ U ∧ ∀ oj oi,ops[j]? = some oj → ops[i]? = some oi → oj.apart ops oi = true) :=by
 unfold unord at h
 split at h <;> try cases h
 rename_i hc
 simp only [Bool.and_eq_true,List.all_eq_true] at hc
 refine ⟨fun i o ho e he hb => ?_,fun j i hji hi => ?_⟩
 ·have :=topGo_ok ops.toList 0 hc.1 i o (by simpa using ho) e he hb
  omega
 ·by_cases hb:((ancs ops.toList []).getD i 0).testBit j = true
  ·left
   have hok:AncsOk ops (ancs ops.toList []) :=ancs_ok ops.toList [] [] rfl rfl fun i m h => by simp at h
   cases hg:(ancs ops.toList [])[i]? with
   |none => simp [hg] at hb
   |some m =>
    simp [hg] at hb
    exact hok i m hg j hb
  ·right
   have hm:(j,i) ∈ pairs (ancs ops.toList []) ops.size :=by
    simp only [pairs,List.mem_flatMap,List.mem_range,List.mem_map,List.mem_filter]
    exact ⟨i,hi,j,⟨hji,by simpa using hb⟩,rfl⟩
   refine ⟨hm,fun oj oi hj hi => ?_⟩
   have :=hc.2 _ hm
   simpa [hj,hi] using this
def indC (base i:Nat) (ri:Rec) (j:Nat) (rj:Rec):Bool :=
 match ri.isCall with
 |true => match rj.isCall with
  |true => false
  |false => rj.W.isEmpty && rj.R.all (fun x => Nat.blt x ri.n0 && !(ri.U.contains x))
 |false => match rj.isCall with
  |true => ri.W.isEmpty && ri.R.all (fun x => Nat.blt x rj.n0 && !(rj.U.contains x))
  |false => (idxs ri.W).all (fun x => x != base + j && !(rj.R.contains x) && !((idxs rj.W).contains x)) && (idxs rj.W).all (fun x => x != base + i && !(ri.R.contains x))
def indB (base i:Nat) (ri:Rec) (j:Nat) (rj:Rec):Bool :=
 match ri.isYld with
 |true => false
 |false => match rj.isYld with
  |true => false
  |false => indC base i ri j rj
theorem indB_ok {base i j:Nat} {ri rj:Rec} (h:indB base i ri j rj = true):HInd base i ri j rj :=by
 unfold indB at h
 unfold HInd
 split at h
 ·cases h
 rename_i y1
 split at h
 ·cases h
 rename_i y2
 refine ⟨⟨y1,y2⟩,?_⟩
 clear y1 y2
 unfold indC at h
 split at h
 ·rename_i h1
  split at h
  ·cases h
  ·rename_i h2
   rw [h1,h2]
   simp only [Bool.and_eq_true,List.isEmpty_iff,List.all_eq_true,Bool.not_eq_true',List.contains_eq_mem,decide_eq_false_iff_not] at h
   exact ⟨h.1,fun x hx => ⟨by have :=(h.2 x hx).1;rwa [Nat.blt_eq] at this,(h.2 x hx).2⟩⟩
 ·rename_i h1
  split at h
  ·rename_i h2
   rw [h1,h2]
   simp only [Bool.and_eq_true,List.isEmpty_iff,List.all_eq_true,Bool.not_eq_true',List.contains_eq_mem,decide_eq_false_iff_not] at h
   exact ⟨h.1,fun x hx => ⟨by have :=(h.2 x hx).1;rwa [Nat.blt_eq] at this,(h.2 x hx).2⟩⟩
  ·rename_i h2
   rw [h1,h2]
   simp only [Bool.and_eq_true,List.all_eq_true,bne_iff_ne,Bool.not_eq_true',List.contains_eq_mem,decide_eq_false_iff_not] at h
   exact ⟨fun x hx => ⟨(h.1 x hx).1.1,(h.1 x hx).1.2,(h.1 x hx).2⟩,fun x hx => h.2 x hx⟩
def lab (k:Nat):List Rec → List (Nat × Rec)
 | [] => []
 |r :: rs => (k,r) :: lab (k + 1) rs
theorem lab_mem:∀ (rs:List Rec) (k i:Nat) (r:Rec),(i,r) ∈ lab k rs ↔ k ≤ i ∧ rs[i - k]? = some r
 | [],k,i,r => by simp [lab]
 |r0 :: rs,k,i,r => by
  simp only [lab,List.mem_cons,Prod.mk.injEq,lab_mem rs (k + 1) i r]
  constructor
  ·rintro (⟨rfl,rfl⟩ | ⟨h1,h2⟩)
   ·simp
   ·refine ⟨by omega,?_⟩
    have:i - k = (i - (k + 1)) + 1 :=by omega
    rw [this];simpa using h2
  ·rintro ⟨h1,h2⟩
   by_cases e:i = k
   ·subst e
    simp at h2
    exact .inl ⟨rfl,h2.symm⟩
   ·right
    have:i - k = (i - (k + 1)) + 1 :=by omega
    rw [this] at h2
    exact ⟨by omega,by simpa using h2⟩
theorem lab_length:∀ (rs:List Rec) (k:Nat),(lab k rs).length = rs.length
 | [],_ => rfl
 | _ :: rs,k => by simp [lab,lab_length rs (k + 1)]
theorem lab_pairwise {Q:Nat × Rec → Nat × Rec → Prop}:∀ (rs:List Rec) (k:Nat),(∀ i j a b,k ≤ i → i < j → rs[i - k]? = some a → rs[j - k]? = some b → Q (i,a) (j,b)) → (lab k rs).Pairwise Q
 | [],_,_ => List.Pairwise.nil
 |r :: rs,k,h => by
  refine List.pairwise_cons.2 ⟨fun p hp => ?_,lab_pairwise rs (k + 1) fun i j a b h1 h2 h3 h4 => ?_⟩
  ·obtain ⟨h1,h2⟩ :=(lab_mem rs (k + 1) p.1 p.2).1 hp
   refine h k p.1 r p.2 (Nat.le_refl _) (by omega) (by simp) ?_
   have:p.1 - k = (p.1 - (k + 1)) + 1 :=by omega
   rw [this];simpa using h2
  ·refine h i j a b (by omega) h2 ?_ ?_
   ·have:i - k = (i - (k + 1)) + 1 :=by omega
    rw [this];simpa using h3
   ·have:j - k = (j - (k + 1)) + 1 :=by omega
    rw [this];simpa using h4
def indAll (base:Nat) (rs:List Rec) (U:List (Nat × Nat)):Bool :=
 U.all fun p => match rs[p.1]? with
  |some a => match rs[p.2]? with
   |some b => indB base p.1 a p.2 b
   |none => false
  |none => false
variable {P:Program} {T:Tr TypeInfo} {F:Tr Func} {X:XT} {B:Nat}
theorem Sem.region_drawn (hT:TOK P T) (hF:FOK P F) (hX:XOK P X) (hmx:P.follows .mixedOrders = true) {id:Nat} {U:List (Nat × Nat)} (hU:unord ops = some U) {rs:List Rec} (hlen:rs.length = ops.size)
  {σ σ':St} (hind:indAll σ.H.n rs U = true) (hch:Chain P T F X B ops σ.H.n (lab 0 rs) { σ with H :=σ.H.room ops.size } σ'):Sem P B (.region id ops true) σ .normal σ' :=by
 obtain ⟨htop,hun⟩ :=unord_ok hU
 have hmem:∀ i,(∃ r,(i,r) ∈ lab 0 rs) ↔ (i < ops.size ∧ (Array.replicate ops.size false).getD i true = false) :=by
  intro i
  constructor
  ·rintro ⟨r,hr⟩
   have h1 :=((lab_mem rs 0 i r).1 hr).2
   have h2:i < ops.size :=by
    have :=(List.getElem?_eq_some_iff.1 h1).1
    omega
   exact ⟨h2,by simp [h2]⟩
  ·rintro ⟨h1,_⟩
   have h2:i < rs.length :=by omega
   exact ⟨rs[i],(lab_mem rs 0 i _).2 ⟨Nat.zero_le _,by simp [h2]⟩⟩
 have hpw:(lab 0 rs).Pairwise (fun a b => a.1 < b.1 ∧ (Anc ops b.1 a.1 ∨ Ind ops σ.H.n a b)) :=by
  refine lab_pairwise rs 0 fun i j a b _ hij ha hb => ⟨hij,?_⟩
  have hj:j < ops.size :=by
   have :=(List.getElem?_eq_some_iff.1 hb).1
   omega
  rcases hun i j hij hj with h | ⟨h1,h2⟩
  ·exact .inl h
  ·refine .inr ⟨h2,indB_ok ?_⟩
   have :=List.all_eq_true.1 hind _ h1
   simp only [Nat.sub_zero] at ha hb
   simpa [ha,hb] using this
 have hd:DownC ops (Array.replicate ops.size false) :=by
  intro i o h
  exfalso
  rw [Array.getD_eq_getD_getElem?,Array.getElem?_replicate] at h
  split at h <;> simp at h
 intro g fr cs w k hr hm ht hro k' hk
 have hdr:Out g B w σ.H g w.drew (σ.H.room ops.size) :=
  ⟨(Out.drew hr.h).rel.room _,(Out.drew hr.h).ext,(Out.drew hr.h).below,fun _ h => h,(Out.drew hr.h).frame,(Out.drew hr.h).own⟩
 have hr1 :=hr.out hdr
 have hmain :=fun t => lin_ok hT hF hX htop rs.length (lab 0 rs) t (Array.replicate ops.size false) _ _ (lab_length rs 0) (by simp) hd hmem hpw hch
 simp only [List.cons_append,List.nil_append] at ht
 have hstep:∃ t,Steps P (lone fr cs w) (lone { fr with todo :=.inRegion ops (Region.linearise .any ops t) :: k } cs w.drew) :=by
  have hrun:∃ t,(choose (.order fr.fn id)).run P w = .ok t w.drew :=by
   rw [run_choose_drew]
   exact ⟨_,rfl⟩
  obtain ⟨t,ht'⟩ :=hrun
  refine ⟨t,step_go ?_⟩
  simp [-run_choose,-run_choose_drew,stepG,stepG.exec,hm,ht,ht',Region.schedule,hmx]
 obtain ⟨t,hstep⟩ :=hstep
 have hm1 :=hmain t
 rw [hlen] at hm1
 obtain ⟨g1,fr1,cs1,w1,q1,q2,q3,q4,q5,q6,q7⟩ :=hm1 g { fr with todo :=.inRegion ops (Region.linearise .any ops t) :: k } cs w.drew k (hr1.todo _) hm rfl (fun e => by cases e) k' hk
 exact ⟨g1,fr1,cs1,w1,q1,hdr.trans q2,⟨q3.fn,q3.kind,q3.round⟩,q4,q5,q6,hstep.trans q7⟩
end
end
end Go.Abs

