/-
  recover, and loops over functions.
  Pure calls: over any heap, and nothing of it is touched.
  Regions whose order is drawn: the order of the text stands for all.
  Regions whose order is drawn: the order of the text stands for all (on).
  Regions whose order is drawn: the check.
  The evaluator: values brought to a form, plans carried out over a heap that is a tree.
  Equal values; a table of pure calls.
  The evaluator: operations, regions, code, functions.
  The evaluator: drawn regions, code, functions.
  The evaluator: functions, deferred calls; its soundness.
  From the evaluator to the calls of a program.
-/
import Derived.Test.YtpjclnoehlflcaaGreatDoorU2
import Derived.Orders
/-! recover, and loops over functions. -/
namespace Go.Abs
open Go
noncomputable section
mutual
theorem Live.bd_le {L:Nat → Prop} {n:Nat} (hL:∀ i,L i → i < n):∀ (a:AV),Live L a → bd a ≤ n
 | .unk,_ => Nat.zero_le _
 | .int _ _,_ => Nat.zero_le _
 | .bool _,_ => Nat.zero_le _
 | .str _,_ => Nat.zero_le _
 | .nilp,_ => Nat.zero_le _
 | .ptr _ _,h => hL _ h
 | .lptr xs _,h => Lives.bd_le hL xs h
 | .gp _ _,_ => Nat.zero_le _
 | .nils,_ => Nat.zero_le _
 | .slc _ _ _ _,h => hL _ h
 | .lst xs _ .no,h => Lives.bd_le hL xs h.1
 | .lst xs _ .full,h => Lives.bd_le hL xs h.1
 | .lst xs _ (.ch c),h => Nat.max_le.2 ⟨hL _ (h.2 c rfl),Lives.bd_le hL xs h.1⟩
 | .nilm,_ => Nat.zero_le _
 | .map _,h => hL _ h
 | .nilf,_ => Nat.zero_le _
 | .func _ f c,h => Nat.max_le.2 ⟨Lives.bd_le hL f h.1,Lives.bd_le hL c h.2⟩
 | .yld _,h => hL _ h
 | .nili,_ => Nat.zero_le _
 | .iface _ a,h => Live.bd_le hL a h
 | .agg cs,h => Lives.bd_le hL cs h
 | .tup cs,h => Lives.bd_le hL cs h
theorem Lives.bd_le {L:Nat → Prop} {n:Nat} (hL:∀ i,L i → i < n):∀ (xs:List AV),Lives L xs → bdl xs ≤ n
 | [],_ => Nat.zero_le _
 |x :: xs,h => Nat.max_le.2 ⟨Live.bd_le hL x h.1,Lives.bd_le hL xs h.2⟩
end
section
variable {P:Program} {B:Nat} {σ σ1 σ2 σ':St} {T:Tr TypeInfo} {F:Tr Func} {X:XT}
theorem OpS.recover_pan (hT:TOK P T) (hF:FOK P F) (hX:XOK P X) {ops:Array Oper} {i s:Nat} {o:Oper} (ho:ops[i]? = some o) (hg:qbi ops σ.tm o = some true) (hsl:σ.H.o s = .hole) {R:List Nat} {W:WL}
  (hev:EvF s (pOp P T F X (aev σ.tm) o) σ.H.o .recover R W) (hrd:σ.rd = false) {v:AV} {l:List (AV × Bool)} (hpm:σ.pm = .pan ((v,false) :: l)) {tm':Tr AV} (hs:SetD σ.tm o.dst v tm') :
  OpS P B ops i σ .normal { σ with tm :=tm',pm :=.pan ((v,true) :: l) } :=by
 intro g fr cs w rest k hr hm ht
 obtain ⟨rfl,h1⟩ :=qf9 (qk9 hT hF hr hsl) hX hev
 have hro :=hr.rd hrd
 have hst :=qce (P :=P) (cs :=cs) (w :=w) hm ht ho (qcn hr.tm hg) (.inl hro)
 have hp :=hr.pm
 rw [hpm] at hp
 obtain ⟨p1,p2,c0,rest0,chain,p3,p4,p5⟩ :=hp
 obtain ⟨e,es',p6,p7,p8,p9,p10,p11⟩ :=p5
 obtain ⟨ev,er,eg⟩ :=e
 simp only at p7 p9 p10
 subst p9 p10 p6 p3
 have htry:tryRecover fr (c0 :: rest0) = some (ev,{ c0 with mode :=.panicking ({ v :=ev,recovered :=true } :: es') } :: rest0) :=by
  simp [tryRecover,p1,p4]
 refine ⟨g,fr.finish ev,{ c0 with mode :=.panicking ({ v :=ev,recovered :=true } :: es') } :: rest0,w,?_,Out.refl hr.h,?_,?_,fun h => absurd hpm (h _),?_,qa6 ?_⟩
 ·have h0:FrRel g B w { σ with pm :=.no } fr (c0 :: rest0) :=⟨hr.h,hr.tm,hr.df,trivial,hr.rd⟩
  have h1 :=h0.finish ht ho p7 p8 hs
  refine ⟨h1.h,h1.tm,h1.df,?_,h1.rd⟩
  rw [qa3 ht ho]
  refine ⟨p1,p2,_,_,_,rfl,rfl,?_⟩
  exact ⟨_,_,rfl,p7,p8,rfl,rfl,p11⟩
 ·rw [qa3 ht ho];exact ⟨rfl,rfl,rfl⟩
 ·rw [hpm];exact ⟨c0,rest0,_,rfl,rfl⟩
 ·rw [qa3 ht ho];exact ⟨hm,rfl⟩
 ·rw [hst];simp [stepG.apply,h1,hro,htry]
theorem OpS.recover_nil (hT:TOK P T) (hF:FOK P F) (hX:XOK P X) {ops:Array Oper} {i s:Nat} {o:Oper} (ho:ops[i]? = some o) (hg:qbi ops σ.tm o = some true) (hsl:σ.H.o s = .hole) {R:List Nat} {W:WL}
  (hev:EvF s (pOp P T F X (aev σ.tm) o) σ.H.o .recover R W) (hrd:σ.rd = false) (hpm:σ.pm = .ret) {tm':Tr AV} (hs:SetD σ.tm o.dst .nili tm') :
  OpS P B ops i σ .normal { σ with tm :=tm' } :=by
 intro g fr cs w rest k hr hm ht
 obtain ⟨rfl,h1⟩ :=qf9 (qk9 hT hF hr hsl) hX hev
 have hro :=hr.rd hrd
 have hst :=qce (P :=P) (cs :=cs) (w :=w) hm ht ho (qcn hr.tm hg) (.inl hro)
 have hp :=hr.pm
 rw [hpm] at hp
 obtain ⟨p1,p2,c0,rest0,p3,p4⟩ :=hp
 have htry:tryRecover fr cs = Option.none :=by
  simp [tryRecover,p1,p3,p4]
 have hu:VRel g w .nili .nilIface :=rfl
 refine ⟨g,fr.finish .nilIface,cs,w,hr.finish ht ho hu trivial hs,Out.refl hr.h,?_,CsOk.refl _ _ _ hr.pm,fun h => h,?_,qa6 ?_⟩
 ·rw [qa3 ht ho];exact ⟨rfl,rfl,rfl⟩
 ·rw [qa3 ht ho];exact ⟨hm,rfl⟩
 ·rw [hst];simp [stepG.apply,h1,hro,htry]
def qka (tm:Tr AV):List (Nat × AV) → Tr AV → Prop
 | [],tm' => tm' = tm
 |(p,a) :: r,tm' => ∃ t1,SetD tm (some p) a t1 ∧ qka t1 r tm'
theorem FRel.setAll {g:Gh} {w:World} {L:Nat → Prop}:∀ (ps:List Nat) (args:List AV) (vs:List Value) {tm tm':Tr AV} {arr:Array Value},VRels g w args vs → Lives L args → qka tm (ps.zip args) tm' → FRel g w L tm arr →
  FRel g w L tm' ((ps.zip vs).foldl (fun tmps (t,a) => tmps.setIfInBounds t a) arr)
 | [],_,_,_,_,_,_,_,h,hf => by
  simp only [List.zip_nil_left,qka] at h
  subst h
  simpa using hf
 | _ :: _,[],_,_,_,_,hv,_,h,hf => by
  simp only [VRels] at hv
  simp only [List.zip_nil_right,qka] at h
  subst h;subst hv
  simpa using hf
 |p :: ps,a :: args,vs,_,_,_,hv,hl,h,hf => by
  obtain ⟨u,us,e,h1,h2⟩ :=hv
  subst e
  obtain ⟨t1,h3,h4⟩ :=h
  have :=FRel.setAll ps args us h2 hl.2 h4 (hf.set h3.1 h3.2 h1 hl.1)
  simpa using this
theorem HRel.setLoop {g:Gh} {w:World} {H:AH} (h:HRel g B w H) {l:Nat} {st:LoopState} {fn:FuncId} {tm:Tr AV} {nt:Nat} {params:List Tmp} {assign body:Code} {dfr:Nat}
  (hl:H.o l = .loop st fn tm nt params assign body dfr) {lp:Loop} (hlp:w.heap[g.ob l]? = some (.loop lp)) (st':LoopState) {lp':Loop} (he:lp' = { lp with state :=st',pending :=Option.none }) :
  Out g B w H g { w with heap :=w.heap.setIfInBounds (g.ob l) (.loop lp') } (H.put l (.loop st' fn tm nt params assign body dfr) 0) :=by
 have hL:H.L l :=by unfold AH.L;rw [hl];simp
 have hr :=h.rel l
 rw [hl] at hr
 obtain ⟨lp0,q1,q2,q3,q4,q6,q7,q8,q9,q10⟩ :=hr
 rw [hlp] at q1
 injection q1 with q1
 injection q1 with q1
 subst q1
 have hlt:g.ob l < w.heap.size :=by
  have :=(h.ge l hL).2
  rw [hl] at this
  exact this
 have hlv :=h.live l
 rw [hl] at hlv
 have hk :=h.kp l
 rw [hl] at hk
 refine h.setOb hL (by rw [hl];rfl) q2 (by simp) rfl 0 (by simp) (fun k hk => ?_) rfl rfl rfl ?_ ?_ ?_
 ·show (w.heap.setIfInBounds (g.ob l) _)[k]? = _
  rw [Array.getElem?_setIfInBounds_ne (by omega)]
 ·intro hx
  refine ⟨lp',?_,q2,by rw [he],by rw [he],?_,by rw [he];exact q7,by rw [he];exact q8,by rw [he];exact q9,by rw [he];exact q10⟩
  ·show (w.heap.setIfInBounds (g.ob l) _)[g.ob l]? = _
   rw [Array.getElem?_setIfInBounds_self_of_lt hlt]
  ·subst he
   exact q6.ext hx hlv.1
 ·exact ⟨fun j a hj => (hlv.1 j a hj).mono fun i hi => AH.put_L H l _ (by simp) hi,AH.put_L H l _ (by simp) hlv.2⟩
 ·have:(H.put l (.loop st' fn tm nt params assign body dfr) 0).keep = H.keep :=by simp [AH.put]
  rw [this]
  exact hk
theorem OpS.yld (hT:TOK P T) (hF:FOK P F) (hX:XOK P X) {ops:Array Oper} {i s:Nat} {o:Oper} (ho:ops[i]? = some o) (hg:qbi ops σ.tm o = some true) (hsl:σ.H.o s = .hole) {l:Nat} {args:List AV} {R:List Nat} {W:WL}
  (hev:EvF s (pOp P T F X (aev σ.tm) o) σ.H.o (.yld l args) R W) {fn:FuncId} {tm:Tr AV} {nt:Nat} {params:List Tmp} {assign body:Code} {dfr:Nat}
  (hl:σ.H.o l = .loop .ready fn tm nt params assign body dfr) {tm0:Tr AV} (hset:qka tm (params.zip args) tm0)
  (hassign:Sem P B assign { tm :=tm0,df :=[],pm :=.no,rd :=true,H :=σ.H } .normal σ1)
  {fn1:FuncId} {tm1:Tr AV} {nt1:Nat} {params1:List Tmp} {assign1 body1:Code} {dfr1:Nat} (h1:σ1.H.o l = .loop .ready fn1 tm1 nt1 params1 assign1 body1 dfr1)
  (hbody:Sem P B body { σ1 with H :=σ1.H.put l (.loop .busy fn1 tm1 nt1 params1 assign1 body1 dfr1) 0 } .normal σ2)
  {st2:LoopState} {fn2:FuncId} {tm2:Tr AV} {nt2:Nat} {params2:List Tmp} {assign2 body2:Code} {dfr2:Nat} (h2:σ2.H.o l = .loop st2 fn2 tm2 nt2 params2 assign2 body2 dfr2)
  {tm':Tr AV} (hs:SetD σ.tm o.dst (.bool true) tm') :
  OpS P B ops i σ .normal { σ with tm :=tm',H :=σ2.H.put l (.loop .ready fn2 tm2 nt2 params2 assign2 body2 dfr2) 0 } :=by
 intro g fr cs w rest k hr hm ht
 obtain ⟨rfl,hL,vs,⟨st',fn',tmx,nt',params',assign',body',dfr',e0,hsz,lp,hlp,hres⟩,hv,hlv⟩ :=qf9 (qk9 hT hF hr hsl) hX hev
 have hst :=qce (P :=P) (cs :=cs) (w :=w) hm ht ho (qcn hr.tm hg) (.inr (qdn hev (by intro f args e;cases e)))
 rw [hl] at e0
 cases e0
 have hro :=hr.h.rel l
 rw [hl] at hro
 obtain ⟨lp0,q1,q2,q3,q4,q6,q7,q8,q9,q10⟩ :=hro
 rw [hlp] at q1
 injection q1 with q1
 injection q1 with q1
 subst q1
 have hlvl :=hr.h.live l
 rw [hl] at hlvl
 -- the round's frame
 have hfold:(lp.params.zip vs).foldl (fun tmps (t,a) => tmps.setIfInBounds t a) lp.tmps = (params.zip vs.toList).foldl (fun tmps (t,a) => tmps.setIfInBounds t a) lp.tmps :=by
  rw [← Array.foldl_toList,Array.toList_zip,q7]
 have hf0:FRel g w σ.H.L tm0 ((lp.params.zip vs).foldl (fun tmps (t,a) => tmps.setIfInBounds t a) lp.tmps) :=by
  rw [hfold]
  exact FRel.setAll params args vs.toList hv hlv hset ⟨q6,hlvl.1⟩
 generalize hr0:Frame.round (g.ob l) lp.fn ((lp.params.zip vs).foldl (fun tmps (t,a) => tmps.setIfInBounds t a) lp.tmps) lp.assign lp.body .normal = r0
 have hrel0:FrRel g B w { tm :=tm0,df :=[],pm :=.no,rd :=true,H :=σ.H } r0 (fr :: cs) :=by
  rw [← hr0]
  exact ⟨hr.h,hf0,rfl,trivial,fun e => by cases e⟩
 have hm0:r0.mode = .run :=by rw [← hr0];rfl
 have ht0:r0.todo = [.code assign] ++ [.beginRound,.code body] :=by rw [← hr0,← q8,← q9];rfl
 have hro0:r0.roundOf = some (g.ob l) :=by rw [← hr0];rfl
 have hk0:r0.kind = .normal :=by rw [← hr0];rfl
 obtain ⟨g1,r1,cs1,w1,a1,a2,a3,a4,a5,a6,a7⟩ :=hassign g r0 (fr :: cs) w _ hrel0 hm0 ht0 (fun e => by cases e) _ rfl
 have a4:cs1 = fr :: cs :=a4
 subst a4
 have ho1:g1.ob l = g.ob l :=a2.ext.ob l hL
 -- the round begins
 have hro1 :=a1.h.rel l
 rw [h1] at hro1
 obtain ⟨lp1,b1,b2,b3,b4,b6,b7,b8,b9,b10⟩ :=hro1
 have hbeg:(Instr.beginRound (g.ob l)).run P w1 = .ok () { w1 with heap :=w1.heap.setIfInBounds (g1.ob l) (.loop { lp1 with state :=.busy,pending :=Option.none }) } :=by
  rw [← ho1]
  obtain ⟨ls,lpe,lf,lt,lps,la,lb,ld⟩ :=lp1
  simp only at b3 b4
  subst b3 b4
  simp [Instr.beginRound,Instr.getLoop,getObj,setObj,Go.Sem.run,b1]
 have ob :=a1.h.setLoop h1 b1 .busy rfl
 generalize hw2:({ w1 with heap :=w1.heap.setIfInBounds (g1.ob l) (.loop { lp1 with state :=.busy,pending :=Option.none }) }:World) = w2 at hbeg ob
 have ro1:r1.roundOf = some (g.ob l) :=by rw [a3.round];exact hro0
 have st1:Steps P (lone r1 (fr :: cs) w1) (lone { r1 with todo :=[.code body] } (fr :: cs) w2) :=qa6 (by
  simp [stepG,stepG.exec,a6.1,a6.2,stepG.apply,ro1,hbeg,Frame.finish])
 have hrel1:FrRel g1 B w2 { σ1 with H :=σ1.H.put l (.loop .busy fn1 tm1 nt1 params1 assign1 body1 dfr1) 0 } { r1 with todo :=[.code body] } (fr :: cs) :=(a1.out ob).todo _
 have hmm:({ r1 with todo :=[.code body] }:Frame).mode = .run :=a6.1
 obtain ⟨g2,r2,cs2,w3,c1,c2,c3,c4,c5,c6,c7⟩ :=hbody g1 { r1 with todo :=[.code body] } (fr :: cs) w2 [] hrel1 hmm rfl (fun e => by cases e) _ rfl
 have c4' :=CsOk.trans (pm :=.no) (b :=fr :: cs) rfl c4 (fun _ => a5 (by intro l;simp))
 have c4':cs2 = fr :: cs :=c4'
 subst c4'
 have hL1:σ1.H.L l :=a2.L l hL
 have ho2:g2.ob l = g.ob l :=by rw [c2.ext.ob l (AH.put_L σ1.H l _ (by simp) hL1),ho1]
 have hro2 :=c1.h.rel l
 rw [h2] at hro2
 obtain ⟨lp2,d1,d2,d3,d4,d6,d7,d8,d9,d10⟩ :=hro2
 have oe :=c1.h.setLoop h2 d1 .ready rfl
 have hend:(Instr.endRound (g.ob l) Option.none).run P w3 = .ok (.bool true) { w3 with heap :=w3.heap.setIfInBounds (g2.ob l) (.loop { lp2 with state :=.ready,pending :=Option.none }) } :=by
  rw [← ho2]
  simp [Instr.endRound,Instr.getLoop,getObj,setObj,Go.Sem.run,d1]
 generalize hw4:({ w3 with heap :=w3.heap.setIfInBounds (g2.ob l) (.loop { lp2 with state :=.ready,pending :=Option.none }) }:World) = w4 at hend oe
 have ro2:r2.roundOf = some (g.ob l) :=by rw [c3.round];exact ro1
 have k2:r2.kind = .normal :=by rw [c3.kind];exact a3.kind.trans hk0
 have hall:Out g B w σ.H g2 w4 (σ2.H.put l (.loop .ready fn2 tm2 nt2 params2 assign2 body2 dfr2) 0) :=a2.trans (ob.trans (c2.trans oe))
 have hr' :=hr.out hall
 have hu:VRel g2 w4 (.bool true) (.bool true) :=rfl
 refine ⟨g2,fr.finish (.bool true),cs,w4,hr'.finish ht ho hu trivial hs,hall,?_,CsOk.refl _ _ _ hr.pm,fun h => h,?_,?_⟩
 ·rw [qa3 ht ho];exact ⟨rfl,rfl,rfl⟩
 ·rw [qa3 ht ho];exact ⟨hm,rfl⟩
 ·refine Steps.trans (qa6 (fr' :=r0) (cs' :=fr :: cs) (w' :=w) ?_) (Steps.trans a7 (st1.trans (c7.trans (qa6 ?_))))
  ·rw [hst,← hr0];simp [stepG.apply,hres]
  ·simp [stepG,stepG.exec,c6.1,c6.2,ro2,hend,doReturn,k2]
theorem Sem.rangeFunc (hF:FOK P F) {f:Operand} {params:Array Tmp} {assign body:Code} {fid:FuncId} {first cap:List AV} (hv:aev σ.tm f = .func (.func fid) first cap) (hrd:σ.rd = false) {dfn:Func} {c:Code} (hd:F.get fid = some dfn) (hb:dfn.body = some c)
  {fnid:FuncId} {nt:Nat} {v:AV} {H1:AH}
  (hcall:CSem P B fid (first ++ (.yld (σ.H.n + 1) :: cap)) ((σ.H.put σ.H.n (.dfr false) 0).put (σ.H.n + 1) (.loop .ready fnid σ.tm nt params.toList assign body σ.H.n) 0) (.ret v) H1)
  {st2:LoopState} {fn2:FuncId} {tm2:Tr AV} {nt2:Nat} {params2:List Tmp} {assign2 body2:Code} {dfr2:Nat} (h2:H1.o (σ.H.n + 1) = .loop st2 fn2 tm2 nt2 params2 assign2 body2 dfr2) (hst2:st2 = .ready) :
  Sem P B (.rangeFunc f params assign body) σ .normal { σ with df :=.mark σ.H.n :: σ.df,H :=H1.put (σ.H.n + 1) (.loop .exhausted fn2 tm2 nt2 params2 assign2 body2 dfr2) 0 } :=by
 subst hst2
 intro g fr cs w k hr hm ht hro k' hk
 simp only [tgt,Option.some.injEq] at hk
 subst hk
 have hround :=hr.rd hrd
 have hLn:∀ i,σ.H.L i → i < σ.H.n :=fun i hi => Nat.lt_of_not_le fun h => hi (hr.h.wf i h)
 -- the block of deferred calls
 have hs1:σ.H.o σ.H.n = .hole :=hr.h.wf _ (Nat.le_refl _)
 obtain ⟨g1,o1,e1⟩ :=hr.h.newOb hs1 (x :=.dfr false) (by simp) (fun _ _ => rfl) (.deferred (some [])) 0
  (fun g' e1 e2 _ _ => ⟨by rw [e1];exact qbo _ _,by rw [e1];exact e2⟩) trivial trivial
 generalize hw1:w.alloc (.deferred (some [])) = w1 at o1
 generalize hH1:σ.H.put σ.H.n (.dfr false) 0 = Ha at o1 hcall
 have hHan:Ha.n = σ.H.n + 1 :=by rw [← hH1];simp [AH.put]
 have hHad:Ha.L σ.H.n :=by rw [← hH1];simp [AH.put,AH.L,upd]
 -- the loop's object
 have hs2:Ha.o (σ.H.n + 1) = .hole :=o1.rel.wf _ (by omega)
 have htm1 :=hr.tm.ext o1.ext o1.L
 have hLa:∀ i,Ha.L i → i < σ.H.n + 1 :=fun i hi => Nat.lt_of_not_le fun h => hi (o1.rel.wf i (by omega))
 obtain ⟨g2,o2,e2⟩ :=o1.rel.newOb hs2 (x :=.loop .ready fnid σ.tm nt params.toList assign body σ.H.n) (by simp) (fun _ _ => rfl)
  (.loop { state :=.ready,pending :=Option.none,fn :=fr.fn,tmps :=fr.tmps,params :=params,assign :=assign,body :=body,defers :=g1.ob σ.H.n }) 0
  (fun g' e1 e2 e3 hx => ⟨_,by rw [e1];exact qbo _ _,by rw [e1];exact e2,rfl,rfl,fun j a hj => ⟨(htm1.rel j a hj).1,(htm1.rel j a hj).2.ext hx _ _ (htm1.live j a hj)⟩,rfl,rfl,rfl,(e3 _ hHad).symm⟩)
  ⟨fun j a hj => (htm1.live j a hj).mono fun i hi => AH.put_L Ha _ _ (by simp) hi,AH.put_L Ha _ _ (by simp) hHad⟩
  ⟨fun j a hj => Nat.le_trans (Live.bd_le hLa a (htm1.live j a hj)) (by omega),by omega⟩
 generalize hlpe:({ state :=.ready,pending :=Option.none,fn :=fr.fn,tmps :=fr.tmps,params :=params,assign :=assign,body :=body,defers :=g1.ob σ.H.n }:Loop) = lpe at o2
 generalize hw2:w1.alloc (.loop lpe) = w2 at o2
 generalize hH2:Ha.put (σ.H.n + 1) (.loop .ready fnid σ.tm nt params.toList assign body σ.H.n) 0 = Hb at o2 hcall
 have hHbL:Hb.L (σ.H.n + 1) :=by rw [← hH2];simp [AH.put,AH.L,upd]
 have henter:(Instr.enterLoop fr.fn fr.tmps params assign body Option.none).run P w = .ok (g2.ob (σ.H.n + 1),[{ target :=.collected (g1.ob σ.H.n),args :=#[] }]) w2 :=by
  rw [e2,← hw2,← hlpe,e1,← hw1]
  simp only [Instr.enterLoop,Go.Sem.run_bind,Result.andThen_ok,Go.Sem.run_pure,run_newObj]
  rfl
 generalize hy:(Value.func (.yield (g2.ob (σ.H.n + 1))) #[] #[]) = y
 have hyv:VRel g2 w2 (.yld (σ.H.n + 1)) y :=hy.symm
 have hround2:({ fr with todo :=.inRangeFunc (g2.ob (σ.H.n + 1)) :: k,defers :={ target :=.collected (g1.ob σ.H.n),args :=#[] } :: fr.defers }:Frame).roundOf = Option.none :=hround
 -- the call
 have hf :=hr.tm.ev (a :={ tmps :=fr.tmps,defers :=fr.defers }) f
 rw [hv] at hf
 have hlf :=hr.tm.evl (x :=f)
 rw [hv] at hlf
 have o12 :=o1.trans o2
 obtain ⟨vf,vc,q1,q2,q3⟩ :=hf.ext o12.ext _ _ hlf
 have hlf' :=hlf.mono o12.L
 have hall:VRels g2 w2 (first ++ (.yld (σ.H.n + 1) :: cap)) (vf.push y ++ vc).toList :=by
  rw [Array.toList_append,Array.toList_push,List.append_assoc]
  exact q2.append ⟨_,_,rfl,hyv,q3⟩
 have hlall:Lives Hb.L (first ++ (.yld (σ.H.n + 1) :: cap)) :=Lives.append hlf'.1 ⟨hHbL,hlf'.2⟩
 have hev:fr.eval f = .func (.func fid) vf vc :=by rw [← q1];cases f <;> rfl
 generalize hfr2:({ fr with todo :=.inRangeFunc (g2.ob (σ.H.n + 1)) :: k,defers :={ target :=.collected (g1.ob σ.H.n),args :=#[] } :: fr.defers }:Frame) = fr2 at hround2
 have hr2:FrRel g2 B w2 { σ with df :=.mark σ.H.n :: σ.df,H :=Hb } fr2 cs :=by
  have h0 :=hr.out o12
  rw [← hfr2]
  refine ⟨h0.h,h0.tm,⟨_,?_,o2.L _ hHad,h0.df⟩,?_,h0.rd⟩
  ·rw [o2.ext.ob _ hHad]
  ·have :=h0.pm
   unfold qe2 at *
   split at this <;> simp_all
 have hm2:fr2.mode = .run :=by rw [← hfr2];exact hm
 have ht2:fr2.todo = .inRangeFunc (g2.ob (σ.H.n + 1)) :: k :=by rw [← hfr2]
 obtain ⟨g3,fr3,w3,k1,k2,k3,u,k4,k5,k6⟩ :=hcall g2 _ (fr2 :: cs) w2 o12.rel hall hlall
 have hr3 :=hr2.out k1
 have hob3:g3.ob (σ.H.n + 1) = g2.ob (σ.H.n + 1) :=k1.ext.ob _ hHbL
 have hro3 :=k1.rel.rel (σ.H.n + 1)
 rw [h2] at hro3
 obtain ⟨lp2,d1,d2,d3,d4,d6,d7,d8,d9,d10⟩ :=hro3
 have oe :=k1.rel.setLoop h2 d1 .exhausted rfl
 have hend:(Instr.endLoop (g2.ob (σ.H.n + 1))).run P w3 = .ok Option.none { w3 with heap :=w3.heap.setIfInBounds (g3.ob (σ.H.n + 1)) (.loop { lp2 with state :=.exhausted,pending :=Option.none }) } :=by
  rw [← hob3]
  obtain ⟨ls,lpe,lf,lt,lps,la,lb,ld⟩ :=lp2
  simp only at d3 d4
  subst d3 d4
  simp [Instr.endLoop,Instr.getLoop,getObj,setObj,Go.Sem.run,d1]
 generalize hw4:({ w3 with heap :=w3.heap.setIfInBounds (g3.ob (σ.H.n + 1)) (.loop { lp2 with state :=.exhausted,pending :=Option.none }) }:World) = w4 at hend oe
 have hr4 :=hr3.out oe
 refine ⟨g3,{ fr2 with todo :=k },cs,w4,hr4.todo _,o12.trans (k1.trans oe),?_,CsOk.refl _ _ _ hr.pm,fun h => h,⟨hm2,rfl⟩,?_⟩
 ·rw [← hfr2];exact ⟨rfl,rfl,rfl⟩
 ·refine Steps.trans (qa6 (fr' :=Frame.enter P fid (vf.push y ++ vc) .normal) (cs' :=fr2 :: cs) (w' :=w2) ?_) (Steps.trans k2 (Steps.trans (.one (step_leave_returned k4)) (qa6 ?_)))
  ·have hce :=qfs hF hd hb (vf.push y ++ vc) w2
   simp only [List.cons_append,List.nil_append] at ht
   rw [← hfr2]
   cases f <;> simp only [Frame.eval] at hev <;> simp [stepG,stepG.exec,hm,ht,hround,henter,stepG.apply,resolve,Deferred.ofValue,invoke,Frame.eval,hev,hy,hce]
  ·simp [stepG,stepG.exec,Frame.finish,hm2,ht2,hend]
end
end
end Go.Abs

/-! Pure calls: over any heap, and nothing of it is touched. -/
namespace Go.Abs
open Go
noncomputable section
def noL:Nat → Prop :=fun _ => False
def Pure (P:Program) (f:FuncId) (args:List AV) (v:AV):Prop :=Live noL v ∧ ∀ B H,CSem P B f args H (.ret v) H
def AH.nil:AH :=⟨0,0,fun _ => .hole⟩
theorem HRel.ofNil {g:Gh} {B:Nat} {w:World} {H:AH} (h:HRel g B w H):HRel g w.heap.size w AH.nil where
 wf :=fun _ _ => rfl
 ge :=fun _ h => absurd rfl h
 inj :=fun _ _ h => absurd rfl h
 rel :=fun _ => trivial
 live :=fun _ => trivial
 kp :=fun _ => trivial
 imz :=h.imz
 hB :=Nat.le_refl _
theorem qes (g:Gh) (k:Nat):¬ qff g AH.nil k :=fun ⟨_,h,_⟩ => h rfl
theorem Out.beside {g g':Gh} {B:Nat} {w w':World} {H H':AH} (h:HRel g B w H) (ho:Out g w.heap.size w AH.nil g' w' H') :
  Out g B w H { g' with ob :=g.ob,cn :=g.cn,cb :=g.cb,cc :=g.cc } w' H :=by
 let g2:Gh :={ g' with ob :=g.ob,cn :=g.cn,cb :=g.cb,cc :=g.cc }
 have hx:Ext H.L g w g2 w' :=⟨fun _ _ => rfl,fun _ _ => Nat.le_refl _,fun _ _ _ => ⟨rfl,rfl⟩,ho.ext.im,ho.ext.cell⟩
 have hbk:∀ x i,g2.bk x i = g.bk x i :=fun x i => by cases x <;> rfl
 refine ⟨⟨h.wf,fun i hi => ?_,fun i j hi hj e => ?_,fun i => ?_,h.live,h.kp,ho.rel.imz,Nat.le_trans h.hB ho.below.size⟩,hx,ho.below.mono h.hB,fun _ hi => hi,fun k hk _ => ho.frame k hk (qes g k),?_⟩
 ·rw [hbk];exact ⟨(h.ge i hi).1,Nat.lt_of_lt_of_le (h.ge i hi).2 ho.below.size⟩
 ·rw [hbk,hbk] at e;exact h.inj i j hi hj e
 ·by_cases e:H.o i = .hole
  ·rw [e];trivial
  ·have hf :=ho.frame _ (h.ge i e).2 (qes g _)
   exact (h.rel i).ext hx (h.live i) e hf.1 hf.2 rfl
 ·rintro k ⟨i,hi,e⟩
  rw [hbk] at e
  exact .inl ⟨i,hi,e⟩
theorem VRel.noref {g g':Gh} {w:World} {v:AV} {u:Value} (hv:VRel g w v u) (hl:Live noL v) (him:g'.im = g.im):VRel g' w v u :=
 hv.ext (L :=noL) ⟨fun _ h => h.elim,fun _ h => h.elim,fun _ h => h.elim,fun b => by rw [him];exact Nat.le_refl _,fun _ _ _ => rfl⟩ v u hl
theorem Live.ofNo {L:Nat → Prop} {v:AV} (h:Live noL v):Live L v :=h.mono fun _ h => h.elim
theorem Lives.ofNo {L:Nat → Prop} {vs:List AV} (h:Lives noL vs):Lives L vs :=h.mono fun _ h => h.elim
def Wk (v v':AV):Prop :=∀ g w u,VRel g w v u → VRel g w v' u
theorem qkv {P:Program} {f:FuncId} {args:List AV} {v v':AV} (h:∀ B,∃ H',CSem P B f args AH.nil (.ret v) H') (ha:Lives noL args) (hw:Wk v v') (hl:Live noL v'):Pure P f args v' :=by
 refine ⟨hl,fun B H g vs cs w hr hv _ => ?_⟩
 obtain ⟨H',hc⟩ :=h w.heap.size
 obtain ⟨g',fr',w',h1,h2,h3,u,h4,h5,h6⟩ :=hc g vs cs w hr.ofNil hv ha.ofNo
 exact ⟨_,fr',w',h1.beside hr,h2,h3,u,h4,(hw _ _ _ h5).noref hl rfl,hl.ofNo⟩
/-! The owner of a list's spare places is forgotten. -/
mutual
def wk:AV → AV
 | .lst xs n own => match own with
  | .full => .lst (wkl xs) n .full
  | _ => .lst (wkl xs) n .no
 | .iface t v => .iface t (wk v)
 | .agg cs => .agg (wkl cs)
 | .tup cs => .tup (wkl cs)
 | .lptr xs off => .lptr (wkl xs) off
 |v => v
def wkl:List AV → List AV
 | [] => []
 |x :: xs => wk x :: wkl xs
end
theorem qed:∀ xs:List AV,(wkl xs).length = xs.length
 | [] => rfl
 |x :: xs => by simp [wkl,qed xs]
mutual
theorem qvs (g:Gh) (w:World):∀ (v:AV) (u:Value),VRel g w v u → VRel g w (wk v) u
 | .unk,_,h => h
 | .int _ _,_,h => h
 | .bool _,_,h => h
 | .str _,_,h => h
 | .nilp,_,h => h
 | .ptr _ _,_,h => h
 | .lptr xs off,v,h => by
  simp only [wk,VRel] at h ⊢
  obtain ⟨b,o0,hv,hb,hr⟩ :=h
  exact ⟨b,o0,hv,by rw [qed];exact hb,qe3 g w xs b o0 hr⟩
 | .gp _ _,_,h => h
 | .nils,_,h => h
 | .slc _ _ _ _,_,h => h
 | .lst xs n own,v,h => by
  simp only [VRel] at h
  obtain ⟨b,off,cap,hv,hn,hb,hr,ho⟩ :=h
  cases own with
  |no => simp only [wk,VRel];exact ⟨b,off,cap,hv,hn,by rw [qed];exact hb,qe3 g w xs b off hr,trivial⟩
  |full => simp only [wk,VRel];exact ⟨b,off,cap,hv,hn,by rw [qed];exact hb,qe3 g w xs b off hr,ho⟩
  |ch c => simp only [wk,VRel];exact ⟨b,off,cap,hv,hn,by rw [qed];exact hb,qe3 g w xs b off hr,trivial⟩
 | .nilm,_,h => h
 | .map _,_,h => h
 | .nilf,_,h => h
 | .func _ _ _,_,h => h
 | .yld _,_,h => h
 | .nili,_,h => h
 | .iface t a,v,h => by
  simp only [wk,VRel] at h ⊢
  obtain ⟨u,hv,h1⟩ :=h
  exact ⟨u,hv,qvs g w a u h1⟩
 | .agg cs,v,h => by
  simp only [wk,VRel] at h ⊢
  obtain ⟨vs,hv,h1⟩ :=h
  exact ⟨vs,hv,qhn g w cs _ h1⟩
 | .tup cs,v,h => by
  simp only [wk,VRel] at h ⊢
  obtain ⟨vs,hv,h1⟩ :=h
  exact ⟨vs,hv,qhn g w cs _ h1⟩
theorem qe3 (g:Gh) (w:World):∀ (xs:List AV) (b off:Nat),LRel g w xs b off → LRel g w (wkl xs) b off
 | [],_,_,_ => trivial
 |x :: xs,b,off,h => by
  simp only [wkl,LRel] at h ⊢
  obtain ⟨⟨u,hu,hv⟩,hr⟩ :=h
  exact ⟨⟨u,hu,qvs g w x u hv⟩,qe3 g w xs b (off + 1) hr⟩
theorem qhn (g:Gh) (w:World):∀ (xs:List AV) (vs:List Value),VRels g w xs vs → VRels g w (wkl xs) vs
 | [],_,h => h
 |x :: xs,vs,h => by
  simp only [wkl,VRels] at h ⊢
  obtain ⟨u,us,e,h1,h2⟩ :=h
  exact ⟨u,us,e,qvs g w x u h1,qhn g w xs us h2⟩
end
mutual
theorem qnh {L:Nat → Prop}:∀ (v:AV),Live L v → Live L (wk v)
 | .unk,h => h
 | .int _ _,h => h
 | .bool _,h => h
 | .str _,h => h
 | .nilp,h => h
 | .ptr _ _,h => h
 | .lptr xs _,h => qdz xs h
 | .gp _ _,h => h
 | .nils,h => h
 | .slc _ _ _ _,h => h
 | .lst xs _ .no,h => ⟨qdz xs h.1,fun _ e => by cases e⟩
 | .lst xs _ .full,h => ⟨qdz xs h.1,fun _ e => by cases e⟩
 | .lst xs _ (.ch _),h => ⟨qdz xs h.1,fun _ e => by cases e⟩
 | .nilm,h => h
 | .map _,h => h
 | .nilf,h => h
 | .func _ _ _,h => h
 | .yld _,h => h
 | .nili,h => h
 | .iface _ a,h => qnh a h
 | .agg cs,h => qdz cs h
 | .tup cs,h => qdz cs h
theorem qdz {L:Nat → Prop}:∀ (xs:List AV),Lives L xs → Lives L (wkl xs)
 | [],h => h
 |x :: xs,h => ⟨qnh x h.1,qdz xs h.2⟩
end
theorem Pure.ofWk {P:Program} {f:FuncId} {args:List AV} {v:AV} (h:Pure P f (wkl args) v):Pure P f args v :=
 ⟨h.1,fun B H g vs cs w hr hv hl => h.2 B H g vs cs w hr (qhn g w args _ hv) (qdz args hl)⟩
theorem Wk.wk (v:AV):Wk v (wk v) :=fun g w u h => qvs g w v u h
theorem Wk.refl (v:AV):Wk v v :=fun _ _ _ h => h
/-! ### No references -/
mutual
def noref:AV → Bool
 | .ptr _ _ => false
 | .lptr xs _ => norefs xs
 | .slc _ _ _ _ => false
 | .lst xs _ own => match own with
  | .ch _ => false
  | _ => norefs xs
 | .map _ => false
 | .func _ f c => norefs f && norefs c
 | .yld _ => false
 | .iface _ v => noref v
 | .agg cs => norefs cs
 | .tup cs => norefs cs
 | _ => true
def norefs:List AV → Bool
 | [] => true
 |x :: xs => match noref x with
  |true => norefs xs
  |false => false
end
mutual
theorem qhy:∀ (v:AV),noref v = true → Live noL v
 | .unk,_ => trivial
 | .int _ _,_ => trivial
 | .bool _,_ => trivial
 | .str _,_ => trivial
 | .nilp,_ => trivial
 | .ptr _ _,h => by simp [noref] at h
 | .lptr xs _,h => qcj xs (by simpa [noref] using h)
 | .gp _ _,_ => trivial
 | .nils,_ => trivial
 | .slc _ _ _ _,h => by simp [noref] at h
 | .lst xs _ .no,h => ⟨qcj xs (by simpa [noref] using h),fun _ e => by cases e⟩
 | .lst xs _ .full,h => ⟨qcj xs (by simpa [noref] using h),fun _ e => by cases e⟩
 | .lst xs _ (.ch _),h => by simp [noref] at h
 | .nilm,_ => trivial
 | .map _,h => by simp [noref] at h
 | .nilf,_ => trivial
 | .func _ f c,h => by
  simp only [noref,Bool.and_eq_true] at h
  exact ⟨qcj f h.1,qcj c h.2⟩
 | .yld _,h => by simp [noref] at h
 | .nili,_ => trivial
 | .iface _ a,h => qhy a (by simpa [noref] using h)
 | .agg cs,h => qcj cs (by simpa [noref] using h)
 | .tup cs,h => qcj cs (by simpa [noref] using h)
theorem qcj:∀ (xs:List AV),norefs xs = true → Lives noL xs
 | [],_ => trivial
 |x :: xs,h => by
  simp only [norefs] at h
  split at h
  ·rename_i hx
   exact ⟨qhy x hx,qcj xs h⟩
  ·cases h
end
end
end Go.Abs

/-! Regions whose order is drawn: the order of the text stands for all. -/
namespace Go.Abs
open Go
noncomputable section
theorem EvF.slot {s s':Nat}:∀ (p:Plan) (o:Nat → AObj) (r:PRes) (R:List Nat),EvF s p o r R [] → EvF s' p o r R []
 | .ret _,_,_,_,h => h
 | .skip,_,_,_,h => h
 | .fail,_,_,_,h => h
 | .chk _ k,o,r,R,h => ⟨h.1,EvF.slot k o r R h.2⟩
 | .fL xs k,o,r,R,h => EvF.slot (k xs) o r R h
 | .get i k,o,r,R,h => by
  obtain ⟨R',e,h1⟩ :=h
  exact ⟨R',e,EvF.slot (k (o i)) o r R' h1⟩
 | .setcs i off vs k,o,r,R,h => by
  obtain ⟨R',W',t,n,ty,t',e,h1,h2,h3,h4,h5⟩ :=h
  cases h4
 | .seto i x rb k,o,r,R,h => by
  obtain ⟨R',W',e,h1,h2⟩ :=h
  cases h1
 | .newl cs ty k,o,r,R,h => by
  obtain ⟨W',t,h1,h2,h3⟩ :=h
  cases h2
 | .newc n x ty k,o,r,R,h => by
  obtain ⟨W',t,h1,h2,h3⟩ :=h
  cases h2
 | .newo x k,o,r,R,h => by
  obtain ⟨W',h1,h2⟩ :=h
  cases h1
 | .call _ _,_,_,_,h => h
 | .yld _ _,_,_,_,h => h
 | .defr _ _,_,_,_,h => h
 | .recover,_,_,_,h => h
 | .panic _,_,_,_,h => h
theorem Tr.set_ex {α:Type}:∀ (t:Tr α) (d:Nat) (x y:α),t.get d = some y → ∃ t':Tr α,∀ j,t'.get j = if j = d then some x else t.get j
 | .nil,d,x,y,h => by rw [Tr.get_nil] at h;cases h
 | .node v l r,d,x,y,h => by
  cases d with
  |zero =>
   refine ⟨.node x l r,fun j => ?_⟩
   cases j with
   |zero => rfl
   |succ j => rw [if_neg (by omega)];exact Tr.get_top _ _ _ _ _
  |succ d =>
   by_cases hd:d % 2 = 0
   ·rw [Tr.get_node_even v l r hd] at h
    obtain ⟨l',hl⟩ :=Tr.set_ex l (d / 2) x y h
    refine ⟨.node v l' r,fun j => ?_⟩
    cases j with
    |zero => rfl
    |succ j =>
     by_cases hj:j % 2 = 0
     ·rw [Tr.get_node_even _ _ _ hj,Tr.get_node_even _ _ _ hj,hl]
      by_cases e:j = d
      ·subst e;simp
      ·rw [if_neg (by omega),if_neg (by omega)]
     ·rw [Tr.get_node_odd _ _ _ hj,Tr.get_node_odd _ _ _ hj,if_neg (by intro e;omega)]
   ·rw [Tr.get_node_odd v l r hd] at h
    obtain ⟨r',hr⟩ :=Tr.set_ex r (d / 2) x y h
    refine ⟨.node v l r',fun j => ?_⟩
    cases j with
    |zero => rfl
    |succ j =>
     by_cases hj:j % 2 = 0
     ·rw [Tr.get_node_even _ _ _ hj,Tr.get_node_even _ _ _ hj,if_neg (by intro e;omega)]
     ·rw [Tr.get_node_odd _ _ _ hj,Tr.get_node_odd _ _ _ hj,hr]
      by_cases e:j = d
      ·subst e;simp
      ·rw [if_neg (by omega),if_neg (by omega)]
theorem AH.put_comm (H:AH) {i j:Nat} (x y:AObj) (r q:Nat) (h:i ≠ j):(H.put i x r).put j y q = (H.put j y q).put i x r :=by
 unfold AH.put
 simp only [AH.mk.injEq]
 refine ⟨by omega,?_,?_⟩
 ·by_cases h1:r ≤ i + 1 <;> by_cases h2:q ≤ j + 1 <;> simp [h1,h2] <;> omega
 ·funext k
  unfold upd
  by_cases h1:k = i <;> by_cases h2:k = j <;> simp [h1,h2] <;> omega
def idxs (W:WL):List Nat :=W.map (·.1)
theorem AH.app_o:∀ (W:WL) (H:AH) (k:Nat),k ∉ idxs W → (H.app W).o k = H.o k
 | [],_,_,_ => rfl
 |(i,x,r) :: W,H,k,h => by
  simp only [idxs,List.map_cons,List.mem_cons,not_or] at h
  have :=AH.app_o W (H.put i x r) k h.2
  rw [AH.app,this]
  exact qsd _ _ h.1
theorem AH.app_put:∀ (W:WL) (H:AH) {i:Nat} (x:AObj) (r:Nat),i ∉ idxs W → (H.put i x r).app W = (H.app W).put i x r
 | [],_,_,_,_,_ => rfl
 |(j,y,q) :: W,H,i,x,r,h => by
  simp only [idxs,List.map_cons,List.mem_cons,not_or] at h
  rw [AH.app,AH.app,AH.put_comm H x y r q h.1]
  exact AH.app_put W _ x r h.2
theorem AH.app_comm:∀ (W W':WL) (H:AH),(∀ i,i ∈ idxs W → i ∉ idxs W') → (H.app W).app W' = (H.app W').app W
 | [],_,_,_ => rfl
 |(i,x,r) :: W,W',H,h => by
  rw [AH.app,AH.app_comm W W' _ fun k hk => h k (by simp only [idxs,List.map_cons,List.mem_cons];exact .inr hk),AH.app_put W' H x r (h i (by simp [idxs]))]
  rfl
/-! ### An operation sees its operands alone -/
theorem qtk {P:Program} {T:Tr TypeInfo} {F:Tr Func} {X:XT} {ev ev':Operand → AV} (o:Oper) (h:∀ x ∈ o.op.operands,ev x = ev' x):pOp P T F X ev o = pOp P T F X ev' o :=by
 obtain ⟨dst,op,type,pos,after,guard⟩ :=o
 have pairs:∀ ps:Array (Nat × Operand),(∀ x ∈ (ps.toList.map (·.2)).toArray,ev x = ev' x) → (ps.toList.map fun p => (p.1,ev p.2)) = (ps.toList.map fun p => (p.1,ev' p.2)) :=fun ps hp =>
  List.map_congr_left fun p hm => by
   obtain ⟨i,x⟩ :=p
   simp only [hp x (by simp only [List.mem_toArray,List.mem_map];exact ⟨(i,x),hm,rfl⟩)]
 have args:∀ xs:Array Operand,(∀ x ∈ xs,ev x = ev' x) → xs.toList.map ev = xs.toList.map ev' :=fun xs hp => List.map_congr_left fun x hx => hp x (by simpa using hx)
 rw [qpv,qpv]
 cases op <;> simp only [Op.operands] at h <;> simp only [pOpM]
 case build t ps => rw [pairs ps h]
 case buildSlice t n ps => rw [pairs ps h]
 case makeFunc fn first captured => rw [args first fun x hx => h x (by simp [hx]),args captured fun x hx => h x (by simp [hx])]
 case slice t x lo hi mx => cases lo <;> cases hi <;> cases mx <;> simp_all
 case call c =>
  have ha :=args c.args fun x hx => h x (by simp [Call.operands,hx])
  cases hc:c.callee with
  |builtin b => simp only [ha]
  |value f => simp only [ha,h f (by simp [Call.operands,hc])]
  |invoke r m => simp only [ha,h r (by simp [Call.operands,hc])]
 case defer c =>
  have ha :=args c.args fun x hx => h x (by simp [Call.operands,hx])
  cases hc:c.callee with
  |value f => simp only [ha,h f (by simp [Call.operands,hc])]
  | _ => rfl
 all_goals (first | rfl | (simp_all;done))
/-! ### Records -/
inductive RK where
 |off
 |val
 |skip
 |call (f:FuncId) (args:List AV)
 |pure (f:FuncId) (args:List AV)
structure Rec where
 k:RK
 v:AV
 R:List Nat
 W:WL
 U:List Nat
 n0:Nat
def Rec.isCall (r:Rec):Bool :=match r.k with | .call _ _ => true | _ => false
section
variable {P:Program} {T:Tr TypeInfo} {F:Tr Func} {X:XT} {B:Nat} {ops:Array Oper} {base:Nat}
def RKOk (P:Program) (T:Tr TypeInfo) (F:Tr Func) (X:XT) (B:Nat) (ops:Array Oper) (s:Nat) (o:Oper) (r:Rec) (tm:Tr AV) (H H':AH):Prop :=
 match r.k with
 | .off => qbi ops tm o = some false ∧ r.v = .tup [] ∧ r.W = [] ∧ H' = H
 | .val => qbi ops tm o = some true ∧ (r.W ≠ [] → H.o s = .hole) ∧ EvF s (pOp P T F X (aev tm) o) H.o (.val r.v) r.R r.W ∧ H' = H.app r.W
 | .skip => qbi ops tm o = some true ∧ (r.W ≠ [] → H.o s = .hole) ∧ EvF s (pOp P T F X (aev tm) o) H.o .skip r.R r.W ∧ r.v = .tup [] ∧ H' = H.app r.W
 | .call f args => qbi ops tm o = some true ∧ r.W = [] ∧ EvF s (pOp P T F X (aev tm) o) H.o (.call f args) r.R [] ∧ CSem P B f args H (.ret r.v) H' ∧ ∀ x,x < r.n0 → x ∉ r.U → H'.o x = H.o x
 | .pure f args => qbi ops tm o = some true ∧ r.W = [] ∧ EvF s (pOp P T F X (aev tm) o) H.o (.call f args) r.R [] ∧ Pure P f args r.v ∧ H' = H
structure RStep (P:Program) (T:Tr TypeInfo) (F:Tr Func) (X:XT) (B:Nat) (ops:Array Oper) (base:Nat) (i:Nat) (r:Rec) (σ σ':St):Prop where
 df:σ'.df = σ.df
 pm:σ'.pm = σ.pm
 rd:σ'.rd = σ.rd
 ex:∃ o,ops[i]? = some o ∧ SetD σ.tm o.dst r.v σ'.tm ∧ RKOk P T F X B ops (base + i) o r σ.tm σ.H σ'.H
theorem RStep.opS (hT:TOK P T) (hF:FOK P F) (hX:XOK P X) {i:Nat} {r:Rec} {σ σ':St} (h:RStep P T F X B ops base i r σ σ'):OpS P B ops i σ .normal σ' :=by
 obtain ⟨h1,h2,h3,o,ho,hs,hk⟩ :=h
 obtain ⟨tm',df',pm',rd',H'⟩ :=σ'
 simp only at h1 h2 h3 hs hk
 subst h1 h2 h3
 obtain ⟨k,v,R,W,U,n0⟩ :=r
 simp only at hs
 unfold RKOk at hk
 simp only at hk
 cases k with
 |off =>
  obtain ⟨k1,rfl,rfl,rfl⟩ :=hk
  exact OpS.skip ho k1 hs
 |val =>
  obtain ⟨k1,k2,k3,rfl⟩ :=hk
  by_cases hW:W = []
  ·subst hW
   exact fun g fr cs w rest k hr hm ht => OpS.val hT hF hX ho k1 (hr.h.wf _ (Nat.le_refl _)) k3.slot hs g fr cs w rest k hr hm ht
  ·exact OpS.val hT hF hX ho k1 (k2 hW) k3 hs
 |skip =>
  obtain ⟨k1,k2,k3,rfl,rfl⟩ :=hk
  by_cases hW:W = []
  ·subst hW
   exact fun g fr cs w rest k hr hm ht => OpS.none hT hF hX ho k1 (hr.h.wf _ (Nat.le_refl _)) k3.slot hs g fr cs w rest k hr hm ht
  ·exact OpS.none hT hF hX ho k1 (k2 hW) k3 hs
 |call f args =>
  obtain ⟨k1,rfl,k3,k4,_⟩ :=hk
  exact fun g fr cs w rest k hr hm ht => OpS.call hT hF hX ho k1 (hr.h.wf _ (Nat.le_refl _)) k3.slot k4 hs g fr cs w rest k hr hm ht
 |pure f args =>
  obtain ⟨k1,rfl,k3,k4,rfl⟩ :=hk
  exact fun g fr cs w rest k hr hm ht => OpS.call hT hF hX ho k1 (hr.h.wf _ (Nat.le_refl _)) k3.slot (k4.2 B _) hs g fr cs w rest k hr hm ht
def HInd (base i:Nat) (ri:Rec) (j:Nat) (rj:Rec):Prop :=
 match ri.isCall,rj.isCall with
 |true,true => False
 |true,false => rj.W = [] ∧ ∀ x,x ∈ rj.R → x < ri.n0 ∧ x ∉ ri.U
 |false,true => ri.W = [] ∧ ∀ x,x ∈ ri.R → x < rj.n0 ∧ x ∉ rj.U
 |false,false => (∀ x,x ∈ idxs ri.W → x ≠ base + j ∧ x ∉ rj.R ∧ x ∉ idxs rj.W) ∧ (∀ x,x ∈ idxs rj.W → x ≠ base + i ∧ x ∉ ri.R)
theorem q0m {tm tm':Tr AV} {d:Option Tmp} {v:AV} (h:SetD tm d v tm') {x:Operand} (hx:∀ t,d = some t → x ≠ .tmp t):aev tm' x = aev tm x :=by
 cases d with
 |none =>
  have h:tm' = tm :=h
  rw [h]
 |some t =>
  cases x with
  |tmp j =>
   have hne:j ≠ t :=fun e => hx t rfl (by rw [e])
   rw [ql1,ql1,h.2 j,if_neg hne]
  | _ => rfl
theorem qj2 {tm tm':Tr AV} {d:Option Tmp} {v:AV} (h:SetD tm d v tm') {o:Oper} (hx:∀ t,d = some t → t ∉ o.looksAt ops):qbi ops tm' o = qbi ops tm o :=by
 cases d with
 |none =>
  have h:tm' = tm :=h
  rw [h]
 |some t =>
  rw [qiw,qiw]
  unfold qqf
  cases hg:o.guard with
  |none => rfl
  |some p =>
   obtain ⟨j,want⟩ :=p
   simp only
   cases hj:ops[j]? with
   |none => rfl
   |some oj =>
    simp only
    cases hd:oj.dst with
    |none => rfl
    |some d' =>
     have hne:d' ≠ t :=fun e => hx t rfl (by subst e;simp [Oper.looksAt,hg,hj,hd])
     simp only
     rw [h.2 d',if_neg hne]
theorem qtj {tm tm':Tr AV} {d:Option Tmp} {v:AV} (h:SetD tm d v tm') {o:Oper} (hx:∀ t,d = some t → t ∉ o.looksAt ops):pOp P T F X (aev tm') o = pOp P T F X (aev tm) o :=
 qtk o fun x hm => q0m h fun t hd hxt => hx t hd (by
  subst hxt
  exact List.mem_append_left _ (List.mem_filterMap.2 ⟨.tmp t,by simpa using hm,rfl⟩))
end
end
end Go.Abs

/-! Regions whose order is drawn: the order of the text stands for all (on). -/
namespace Go.Abs
open Go
noncomputable section
section
variable {P:Program} {T:Tr TypeInfo} {F:Tr Func} {X:XT} {B:Nat} {ops:Array Oper} {base:Nat}
theorem RKOk.frame {s:Nat} {o:Oper} {r:Rec} {tm tm1:Tr AV} {H H1 H':AH} (hc:r.isCall = false) (h:RKOk P T F X B ops s o r tm H H') (hg:qbi ops tm1 o = qbi ops tm o) (hp:pOp P T F X (aev tm1) o = pOp P T F X (aev tm) o)
  (hR:∀ x,x ∈ r.R → H1.o x = H.o x) (hs:r.W ≠ [] → H.o s = .hole → H1.o s = .hole):H' = H.app r.W ∧ RKOk P T F X B ops s o r tm1 H1 (H1.app r.W) :=by
 obtain ⟨k,v,R,W,U,n0⟩ :=r
 unfold RKOk at h ⊢
 simp only at h hR hs ⊢
 rw [hg,hp]
 cases k with
 |off =>
  obtain ⟨k1,k2,rfl,rfl⟩ :=h
  exact ⟨rfl,k1,k2,rfl,rfl⟩
 |val =>
  obtain ⟨k1,k2,k3,rfl⟩ :=h
  exact ⟨rfl,k1,fun hW => hs hW (k2 hW),k3.agree _ _ _ _ _ _ hR,trivial⟩
 |skip =>
  obtain ⟨k1,k2,k3,k4,rfl⟩ :=h
  exact ⟨rfl,k1,fun hW => hs hW (k2 hW),k3.agree _ _ _ _ _ _ hR,k4,trivial⟩
 |call f args => simp [Rec.isCall] at hc
 |pure f args =>
  obtain ⟨k1,rfl,k3,k4,rfl⟩ :=h
  exact ⟨rfl,k1,rfl,k3.agree _ _ _ _ _ _ hR,k4,rfl⟩
theorem RKOk.keeps {s:Nat} {o:Oper} {r:Rec} {tm:Tr AV} {H H':AH} (hc:r.isCall = true) (h:RKOk P T F X B ops s o r tm H H'):∀ x,x < r.n0 → x ∉ r.U → H'.o x = H.o x :=by
 obtain ⟨k,v,R,W,U,n0⟩ :=r
 unfold RKOk at h
 simp only at h ⊢
 cases k with
 |call f args => exact h.2.2.2.2
 | _ => simp [Rec.isCall] at hc
theorem RKOk.tm {s:Nat} {o:Oper} {r:Rec} {tm tm1:Tr AV} {H H':AH} (h:RKOk P T F X B ops s o r tm H H') (hg:qbi ops tm1 o = qbi ops tm o) (hp:pOp P T F X (aev tm1) o = pOp P T F X (aev tm) o):RKOk P T F X B ops s o r tm1 H H' :=by
 unfold RKOk at h ⊢
 rw [hg,hp]
 exact h
theorem SetD.look {tm tm':Tr AV} {d:Option Tmp} {v:AV} (h:SetD tm d v tm') (j:Nat):tm'.get j = if d = some j then some v else tm.get j :=by
 cases d with
 |none =>
  have h:tm' = tm :=h
  rw [h];simp
 |some t =>
  rw [h.2 j]
  by_cases e:j = t
  ·subst e;simp
  ·rw [if_neg e,if_neg (by intro h;cases h;exact e rfl)]
theorem SetD.ex {tm:Tr AV} {d:Option Tmp} {v:AV} (h:∀ t,d = some t → ∃ y,tm.get t = some y):∃ tm',SetD tm d v tm' :=by
 cases d with
 |none => exact ⟨tm,rfl⟩
 |some t =>
  obtain ⟨y,hy⟩ :=h t rfl
  obtain ⟨t',ht⟩ :=Tr.set_ex tm t v y hy
  exact ⟨t',⟨y,hy⟩,ht⟩
theorem RStep.swap {j i:Nat} {rj ri:Rec} {σ σ1 σ2:St} (hj:RStep P T F X B ops base j rj σ σ1) (hi:RStep P T F X B ops base i ri σ1 σ2)
  (ha:∀ oj oi,ops[j]? = some oj → ops[i]? = some oi → oj.apart ops oi = true) (_hne:base + j ≠ base + i) (hind:HInd base j rj i ri) :
  ∃ σ1',RStep P T F X B ops base i ri σ σ1' ∧ RStep P T F X B ops base j rj σ1' σ2 :=by
 obtain ⟨a1,a2,a3,oj,hoj,sj,kj⟩ :=hj
 obtain ⟨b1,b2,b3,oi,hoi,si,ki⟩ :=hi
 obtain ⟨h1,h2,h3⟩ :=Oper.apart_spec (ha oj oi hoj hoi)
 have hdi:∀ t,oi.dst = some t → ∃ y,σ.tm.get t = some y :=fun t ht => by
  rw [ht] at si
  obtain ⟨⟨y,hy⟩,_⟩ :=si
  rw [sj.look] at hy
  rw [if_neg (fun e => h2 t e ht)] at hy
  exact ⟨y,hy⟩
 obtain ⟨tm',st,st2⟩ : ∃ tm',SetD σ.tm oi.dst ri.v tm' ∧ SetD tm' oj.dst rj.v σ2.tm :=by
  cases hd:oj.dst with
  |none =>
   rw [hd] at sj
   have e1:σ1.tm = σ.tm :=sj
   rw [e1] at si
   exact ⟨σ2.tm,si,rfl⟩
  |some t =>
   obtain ⟨tm',st⟩ :=SetD.ex (v :=ri.v) hdi
   refine ⟨tm',st,?_,fun k => ?_⟩
   ·rw [hd] at sj
    obtain ⟨⟨y,hy⟩,_⟩ :=sj
    refine ⟨y,?_⟩
    rw [st.look,if_neg (fun e => h2 t hd e)]
    exact hy
   ·rw [si.look,st.look,sj.look,hd]
    by_cases e:k = t
    ·subst e
     rw [if_neg (fun e => h2 k hd e)]
     simp
    ·rw [if_neg (show ¬ some t = some k by intro h;cases h;exact e rfl),if_neg e]
 have gi:qbi ops σ.tm oi = qbi ops σ1.tm oi :=(qj2 sj h1).symm
 have pi:pOp P T F X (aev σ.tm) oi = pOp P T F X (aev σ1.tm) oi :=(qtj sj h1).symm
 have gj:qbi ops tm' oj = qbi ops σ.tm oj :=qj2 st h3
 have pj:pOp P T F X (aev tm') oj = pOp P T F X (aev σ.tm) oj :=qtj st h3
 unfold HInd at hind
 cases hcj:rj.isCall with
 |true =>
  rw [hcj] at hind
  cases hci:ri.isCall with
  |true => rw [hci] at hind;exact hind.elim
  |false =>
   rw [hci] at hind
   obtain ⟨hW,hR⟩ :=hind
   obtain ⟨k1,k2⟩ :=ki.frame hci (tm1 :=σ.tm) (H1 :=σ.H) gi pi (fun x hx => (kj.keeps hcj x (hR x hx).1 (hR x hx).2).symm) (fun h => absurd hW h)
   rw [hW] at k1 k2
   have k1:σ2.H = σ1.H :=k1
   refine ⟨{ σ with tm :=tm' },⟨rfl,rfl,rfl,oi,hoi,st,k2⟩,⟨b1.trans a1,b2.trans a2,b3.trans a3,oj,hoj,st2,?_⟩⟩
   rw [k1]
   exact kj.tm gj pj
 |false =>
  rw [hcj] at hind
  cases hci:ri.isCall with
  |true =>
   rw [hci] at hind
   obtain ⟨hW,hR⟩ :=hind
   have k1 :=(kj.frame hcj (tm1 :=σ.tm) (H1 :=σ.H) rfl rfl (fun _ _ => rfl) (fun _ h => h)).1
   rw [hW] at k1
   have k1:σ1.H = σ.H :=k1
   obtain ⟨_,k2⟩ :=kj.frame hcj (tm1 :=tm') (H1 :=σ2.H) gj pj (fun x hx => by rw [ki.keeps hci x (hR x hx).1 (hR x hx).2,k1]) (fun h => absurd hW h)
   rw [hW] at k2
   refine ⟨{ σ with tm :=tm',H :=σ2.H },⟨rfl,rfl,rfl,oi,hoi,st,?_⟩,⟨b1.trans a1,b2.trans a2,b3.trans a3,oj,hoj,st2,k2⟩⟩
   rw [k1] at ki
   exact ki.tm gi pi
  |false =>
   rw [hci] at hind
   obtain ⟨q1,q2⟩ :=hind
   have kj0 :=(kj.frame hcj (tm1 :=σ.tm) (H1 :=σ.H) rfl rfl (fun _ _ => rfl) (fun _ h => h)).1
   obtain ⟨k1,k2⟩ :=ki.frame hci (tm1 :=σ.tm) (H1 :=σ.H) gi pi (fun x hx => by
    rw [kj0];exact (AH.app_o _ _ _ fun h => (q1 x h).2.1 hx).symm) (fun _ h => by
    rw [kj0,AH.app_o _ _ _ fun h => (q1 _ h).1 rfl] at h;exact h)
   obtain ⟨k3,k4⟩ :=kj.frame hcj (tm1 :=tm') (H1 :=σ.H.app ri.W) gj pj (fun x hx => AH.app_o _ _ _ fun h => (q2 x h).2 hx)
    (fun _ h => by rw [AH.app_o _ _ _ fun h => (q2 _ h).1 rfl];exact h)
   refine ⟨{ σ with tm :=tm',H :=σ.H.app ri.W },⟨rfl,rfl,rfl,oi,hoi,st,k2⟩,⟨b1.trans a1,b2.trans a2,b3.trans a3,oj,hoj,st2,?_⟩⟩
   have:σ2.H = (σ.H.app ri.W).app rj.W :=by rw [k1,kj0,AH.app_comm _ _ _ fun x hx => (q1 x hx).2.2]
   rw [this]
   exact k4
/-! ### Chains of operations -/
def qjh (P:Program) (T:Tr TypeInfo) (F:Tr Func) (X:XT) (B:Nat) (ops:Array Oper) (base:Nat):List (Nat × Rec) → St → St → Prop
 | [],σ,σ' => σ' = σ
 |(i,r) :: l,σ,σ' => ∃ σ1,RStep P T F X B ops base i r σ σ1 ∧ qjh P T F X B ops base l σ1 σ'
def Ind (ops:Array Oper) (base:Nat) (a b:Nat × Rec):Prop :=
 (∀ oj oi,ops[a.1]? = some oj → ops[b.1]? = some oi → oj.apart ops oi = true) ∧ HInd base a.1 a.2 b.1 b.2
theorem qjh.front {i:Nat} {r:Rec} {post:List (Nat × Rec)} {σ':St}:∀ (pre:List (Nat × Rec)) (σ:St),qjh P T F X B ops base (pre ++ (i,r) :: post) σ σ' → (∀ a,a ∈ pre → a.1 ≠ i ∧ Ind ops base a (i,r)) →
  ∃ σ1,RStep P T F X B ops base i r σ σ1 ∧ qjh P T F X B ops base (pre ++ post) σ1 σ'
 | [],σ,h,_ => h
 |(j,rj) :: pre,σ,h,hi => by
  obtain ⟨σ1,h1,h2⟩ :=h
  obtain ⟨σ2,h3,h4⟩ :=qjh.front pre σ1 h2 fun a ha => hi a (List.mem_cons_of_mem _ ha)
  obtain ⟨hne,hap,hin⟩ :=hi (j,rj) (by simp)
  obtain ⟨σ3,h5,h6⟩ :=h1.swap h3 hap (by simp only at hne;omega) hin
  exact ⟨σ3,h5,σ2,h6,h4⟩
/-! ### The order of the edges -/
inductive Anc (ops:Array Oper):Nat → Nat → Prop
 |edge {i j:Nat} {o:Oper} {e:Edge}:ops[i]? = some o → e ∈ o.after → Region.binds .any e = true → e.on = j → Anc ops i j
 |trans {i j:Nat} {o:Oper} {e:Edge}:ops[i]? = some o → e ∈ o.after → Region.binds .any e = true → Anc ops e.on j → Anc ops i j
def qxm (ops:Array Oper) (listed:Array Bool):Prop :=
 ∀ i o,listed.getD i false = true → ops[i]? = some o → ∀ e,e ∈ o.after → Region.binds .any e = true → listed.getD e.on false = true
theorem Anc.listed {listed:Array Bool} (hd:qxm ops listed) {i j:Nat} (h:Anc ops i j):listed.getD i false = true → listed.getD j false = true :=by
 induction h with
 |edge h1 h2 h3 h4 => intro hl;subst h4;exact hd _ _ hl h1 _ h2 h3
 |trans h1 h2 h3 _ ih => intro hl;exact ih (hd _ _ hl h1 _ h2 h3)
theorem Anc.ready {listed:Array Bool} (hd:qxm ops listed) {i j:Nat} (h:Anc ops i j) (hr:i ∈ Region.ready .any ops listed):listed.getD j false = true :=by
 obtain ⟨_,o,ho,hall⟩ :=mem_ready.1 hr
 cases h with
 |edge h1 h2 h3 h4 =>
  rw [ho] at h1;cases h1
  subst h4;exact hall _ h2 h3
 |trans h1 h2 h3 h4 =>
  rw [ho] at h1;cases h1
  exact h4.listed hd (hall _ h2 h3)
theorem q1d (hT:TOK P T) (hF:FOK P F) (hX:XOK P X) (htop:∀ i o,ops[i]? = some o → ∀ e,e ∈ o.after → Region.binds .any e = true → e.on < i):∀ (n:Nat) (recs:List (Nat × Rec)) (t:Nat) (listed:Array Bool) (σ σ':St),
  recs.length = n → listed.size = ops.size → qxm ops listed → (∀ i,(∃ r,(i,r) ∈ recs) ↔ (i < ops.size ∧ listed.getD i true = false)) →
  recs.Pairwise (fun a b => a.1 < b.1 ∧ (Anc ops b.1 a.1 ∨ Ind ops base a b)) → qjh P T F X B ops base recs σ σ' →
  SemT P B [.inRegion ops (Region.linearise.go .any ops n t listed [])] σ .normal σ' :=by
 intro n
 induction n with
 |zero =>
  intro recs t listed σ σ' hn _ _ _ _ hc
  have:recs = [] :=List.eq_nil_of_length_eq_zero hn
  subst this
  have hc:σ' = σ :=hc
  subst hc
  exact SemT.region_nil
 |succ n ih =>
  intro recs t listed σ σ' hn hsz hd hmem hpw hc
  have hnone:∀ i,i < ops.size → listed.getD i true = true → listed.getD i false = true :=fun i hi h => by
   have:i < listed.size :=by omega
   simpa [this] using h
  -- the first one is ready
  have hfirst:Region.ready .any ops listed ≠ [] :=by
   cases recs with
   |nil => simp at hn
   |cons p rest =>
    obtain ⟨i0,r0⟩ :=p
    have h0 :=(hmem i0).1 ⟨r0,by simp⟩
    have:i0 ∈ Region.ready .any ops listed :=by
     rw [mem_ready]
     refine ⟨h0.2,ops[i0],Array.getElem?_eq_getElem h0.1,fun e he hb => ?_⟩
     have hlt :=htop i0 _ (Array.getElem?_eq_getElem h0.1) e he hb
     apply hnone _ (by omega)
     cases hl:listed.getD e.on true with
     |true => rfl
     |false =>
      obtain ⟨r,hr⟩ :=(hmem e.on).2 ⟨by omega,hl⟩
      rcases List.mem_cons.1 hr with h | h
      ·cases h;omega
      ·have :=(List.pairwise_cons.1 hpw).1 _ h
       simp only at this;omega
    intro e
    rw [e] at this
    cases this
  simp only [Region.linearise.go]
  show SemT P B [.inRegion ops (match (Region.ready .any ops listed)[t % (Region.ready .any ops listed).length]? with
   |some i => Region.linearise.go .any ops n (t / (Region.ready .any ops listed).length) (listed.setIfInBounds i true) [i]
   |none => [].reverse)] σ .normal σ'
  cases hi:(Region.ready .any ops listed)[t % (Region.ready .any ops listed).length]? with
  |none =>
   exfalso
   cases hr:Region.ready .any ops listed with
   |nil => exact hfirst hr
   |cons x xs =>
    rw [hr] at hi
    have hlt:t % (x :: xs).length < (x :: xs).length :=Nat.mod_lt _ (by simp)
    rw [List.getElem?_eq_getElem hlt] at hi
    cases hi
  |some i =>
   simp only []
   rw [linearise_go_acc,List.reverse_singleton,List.singleton_append]
   have hir :=List.mem_of_getElem? hi
   obtain ⟨q1,o,q2,q3⟩ :=mem_ready.1 hir
   have hilt:i < ops.size :=(Array.getElem?_eq_some_iff.1 q2).1
   obtain ⟨r,hr⟩ :=(hmem i).2 ⟨hilt,q1⟩
   obtain ⟨pre,post,hsplit⟩ :=List.append_of_mem hr
   subst hsplit
   have hpw' :=List.pairwise_append.1 hpw
   have hpre:∀ a,a ∈ pre → a.1 ≠ i ∧ Ind ops base a (i,r) :=fun a ha => by
    have h1 :=hpw'.2.2 a ha (i,r) (by simp)
    refine ⟨by have :=h1.1;simp only at this;omega,?_⟩
    rcases h1.2 with h2 | h2
    ·have h3 :=h2.ready hd hir
     have h4 :=((hmem a.1).1 ⟨a.2,by simp [ha]⟩)
     have:a.1 < listed.size :=by omega
     have h5 :=h4.2
     simp [this] at h3 h5
     rw [h3] at h5
     cases h5
    ·exact h2
   obtain ⟨σ1,hs1,hs2⟩ :=qjh.front pre σ hc hpre
   refine SemT.region_cons (hs1.opS hT hF hX) (ih (pre ++ post) _ _ _ _ ?_ ?_ ?_ ?_ ?_ hs2)
   ·simp only [List.length_append,List.length_cons] at hn ⊢;omega
   ·simpa using hsz
   ·intro k ok hk hok e he hb
    by_cases hki:k = i
    ·subst hki
     rw [q2] at hok;cases hok
     exact getD_set_true (q3 e he hb)
    ·rw [getD_set_ne false (Ne.symm hki)] at hk
     exact getD_set_true (hd k ok hk hok e he hb)
   ·intro k
    constructor
    ·rintro ⟨rk,hk⟩
     have hk':(k,rk) ∈ pre ++ (i,r) :: post :=by
      rcases List.mem_append.1 hk with h | h
      ·exact List.mem_append_left _ h
      ·exact List.mem_append_right _ (List.mem_cons_of_mem _ h)
     have h1 :=(hmem k).1 ⟨rk,hk'⟩
     have hne:k ≠ i :=by
      rcases List.mem_append.1 hk with h | h
      ·have :=(hpre _ h).1;simpa using this
      ·have :=(List.pairwise_cons.1 hpw'.2.1).1 _ h
       simp only at this;omega
     exact ⟨h1.1,by rw [getD_set_ne true (Ne.symm hne)];exact h1.2⟩
    ·rintro ⟨h1,h2⟩
     have hne:k ≠ i :=by
      intro e
      subst e
      have:k < listed.size :=by omega
      simp [this] at h2
     rw [getD_set_ne true (Ne.symm hne)] at h2
     obtain ⟨rk,hk⟩ :=(hmem k).2 ⟨h1,h2⟩
     refine ⟨rk,?_⟩
     rcases List.mem_append.1 hk with h | h
     ·exact List.mem_append_left _ h
     ·rcases List.mem_cons.1 h with h | h
      ·cases h;exact absurd rfl hne
      ·exact List.mem_append_right _ h
   ·refine List.pairwise_append.2 ⟨hpw'.1,(List.pairwise_cons.1 hpw'.2.1).2,fun a ha b hb => hpw'.2.2 a ha b (List.mem_cons_of_mem _ hb)⟩
end
end
end Go.Abs

/-! Regions whose order is drawn: the check. -/
namespace Go.Abs
open Go
noncomputable section
def qw9 (acc:List Nat):List Edge → Nat → Nat
 | [],s => s
 |e :: es,s => qw9 acc es (if Region.binds .any e then s ||| 2 ^ e.on ||| acc.getD e.on 0 else s)
def ancs:List Oper → List Nat → List Nat
 | [],acc => acc
 |o :: os,acc => ancs os (acc ++ [qw9 acc o.after.toList 0])
def qvx:List Oper → Nat → Bool
 | [],_ => true
 |o :: os,i => o.after.toList.all (fun e => !Region.binds .any e || decide (e.on < i)) && qvx os (i + 1)
def pairs (A:List Nat) (n:Nat):List (Nat × Nat) :=
 (List.range n).flatMap fun i => ((List.range i).filter fun j => !((A.getD i 0).testBit j)).map fun j => (j,i)
def qvv (ops:Array Oper):Option (List (Nat × Nat)) :=
 if qvx ops.toList 0 && (pairs (ancs ops.toList []) ops.size).all (fun p => match ops[p.1]? with
   |some a => match ops[p.2]? with
    |some b => a.apart ops b
    |none => false
   |none => false) then some (pairs (ancs ops.toList []) ops.size) else none
section
variable {ops:Array Oper}
def qvq (ops:Array Oper) (acc:List Nat):Prop :=∀ i m,acc[i]? = some m → ∀ j,m.testBit j = true → Anc ops i j
theorem qqk {acc:List Nat} {Q:Nat → Prop}:∀ (es:List Edge) (s:Nat),(∀ j,s.testBit j = true → Q j) → (∀ e,e ∈ es → Region.binds .any e = true → Q e.on ∧ ∀ j,(acc.getD e.on 0).testBit j = true → Q j) →
  ∀ j,(qw9 acc es s).testBit j = true → Q j
 | [],_,hs,_,j,h => hs j h
 |e :: es,s,hs,he,j,h => by
  refine qqk es _ ?_ (fun e' he' => he e' (List.mem_cons_of_mem _ he')) j h
  intro k hk
  split at hk
  ·rename_i hb
   obtain ⟨h1,h2⟩ :=he e (by simp) hb
   simp only [Nat.testBit_or,Bool.or_eq_true,Nat.testBit_two_pow,decide_eq_true_eq] at hk
   rcases hk with (hk | hk) | hk
   ·exact hs k hk
   ·subst hk;exact h1
   ·exact h2 k hk
  ·exact hs k hk
theorem qvl:∀ (os:List Oper) (acc:List Nat) (pre:List Oper),ops.toList = pre ++ os → pre.length = acc.length → qvq ops acc → qvq ops (ancs os acc)
 | [],_,_,_,_,h => h
 |o :: os,acc,pre,hp,hl,h => by
  have ho:ops[acc.length]? = some o :=by
   rw [← Array.getElem?_toList,hp,← hl]
   simp
  refine qvl os _ (pre ++ [o]) (by simp [hp]) (by simp [hl]) ?_
  intro i m hi j hj
  rw [List.getElem?_append] at hi
  split at hi
  ·exact h i m hi j hj
  ·rename_i hge
   have hi0:i = acc.length :=by
    have:i - acc.length < 1 :=by
     rcases Nat.lt_or_ge (i - acc.length) 1 with h | h
     ·exact h
     ·simp [List.getElem?_eq_none (l :=[qw9 acc o.after.toList 0]) (by simpa using h)] at hi
    omega
   subst hi0
   simp only [Nat.sub_self,List.getElem?_cons_zero,Option.some.injEq] at hi
   subst hi
   refine qqk o.after.toList 0 (fun j h => by simp at h) ?_ j hj
   intro e he hb
   refine ⟨.edge ho (by simpa using he) hb rfl,fun k hk => ?_⟩
   cases hg:acc[e.on]? with
   |none => simp [hg] at hk
   |some m =>
    simp [hg] at hk
    exact .trans ho (by simpa using he) hb (h _ m hg k hk)
theorem qo7:∀ (os:List Oper) (k:Nat),qvx os k = true → ∀ i o,os[i]? = some o → ∀ e,e ∈ o.after → Region.binds .any e = true → e.on < k + i
 | [],_,_,_,_,h,_,_,_ => by simp at h
 |o :: os,k,h,i,o',hi,e,he,hb => by
  simp only [qvx,Bool.and_eq_true] at h
  cases i with
  |zero =>
   simp only [List.getElem?_cons_zero,Option.some.injEq] at hi
   subst hi
   have :=List.all_eq_true.1 h.1 e (by simpa using he)
   simpa [hb] using this
  |succ i =>
   have :=qo7 os (k + 1) h.2 i o' (by simpa using hi) e he hb
   omega
theorem qvu {U:List (Nat × Nat)} (h:qvv ops = some U):(∀ i o,ops[i]? = some o → ∀ e,e ∈ o.after → Region.binds .any e = true → e.on < i) ∧
  ∀ j i,j < i → i < ops.size → Anc ops i j ∨ ((j,i) ∈ U ∧ ∀ oj oi,ops[j]? = some oj → ops[i]? = some oi → oj.apart ops oi = true) :=by
 unfold qvv at h
 split at h <;> try cases h
 rename_i hc
 simp only [Bool.and_eq_true,List.all_eq_true] at hc
 refine ⟨fun i o ho e he hb => ?_,fun j i hji hi => ?_⟩
 ·have :=qo7 ops.toList 0 hc.1 i o (by simpa using ho) e he hb
  omega
 ·by_cases hb:((ancs ops.toList []).getD i 0).testBit j = true
  ·left
   have hok:qvq ops (ancs ops.toList []) :=qvl ops.toList [] [] rfl rfl fun i m h => by simp at h
   cases hg:(ancs ops.toList [])[i]? with
   |none => simp [hg] at hb
   |some m =>
    simp [hg] at hb
    exact hok i m hg j hb
  ·right
   have hm:(j,i) ∈ pairs (ancs ops.toList []) ops.size :=by
    simp only [pairs,List.mem_flatMap,List.mem_range,List.mem_map,List.mem_filter]
    exact ⟨i,hi,j,⟨hji,by simpa using hb⟩,rfl⟩
   refine ⟨hm,fun oj oi hj hi => ?_⟩
   have :=hc.2 _ hm
   simpa [hj,hi] using this
def indB (base i:Nat) (ri:Rec) (j:Nat) (rj:Rec):Bool :=
 match ri.isCall with
 |true => match rj.isCall with
  |true => false
  |false => rj.W.isEmpty && rj.R.all (fun x => Nat.blt x ri.n0 && !(ri.U.contains x))
 |false => match rj.isCall with
  |true => ri.W.isEmpty && ri.R.all (fun x => Nat.blt x rj.n0 && !(rj.U.contains x))
  |false => (idxs ri.W).all (fun x => x != base + j && !(rj.R.contains x) && !((idxs rj.W).contains x)) && (idxs rj.W).all (fun x => x != base + i && !(ri.R.contains x))
theorem qzx {base i j:Nat} {ri rj:Rec} (h:indB base i ri j rj = true):HInd base i ri j rj :=by
 unfold indB at h
 unfold HInd
 split at h
 ·rename_i h1
  split at h
  ·cases h
  ·rename_i h2
   rw [h1,h2]
   simp only [Bool.and_eq_true,List.isEmpty_iff,List.all_eq_true,Bool.not_eq_true',List.contains_eq_mem,decide_eq_false_iff_not] at h
   exact ⟨h.1,fun x hx => ⟨by have :=(h.2 x hx).1;rwa [Nat.blt_eq] at this,(h.2 x hx).2⟩⟩
 ·rename_i h1
  split at h
  ·rename_i h2
   rw [h1,h2]
   simp only [Bool.and_eq_true,List.isEmpty_iff,List.all_eq_true,Bool.not_eq_true',List.contains_eq_mem,decide_eq_false_iff_not] at h
   exact ⟨h.1,fun x hx => ⟨by have :=(h.2 x hx).1;rwa [Nat.blt_eq] at this,(h.2 x hx).2⟩⟩
  ·rename_i h2
   rw [h1,h2]
   simp only [Bool.and_eq_true,List.all_eq_true,bne_iff_ne,Bool.not_eq_true',List.contains_eq_mem,decide_eq_false_iff_not] at h
   exact ⟨fun x hx => ⟨(h.1 x hx).1.1,(h.1 x hx).1.2,(h.1 x hx).2⟩,fun x hx => h.2 x hx⟩
def lab (k:Nat):List Rec → List (Nat × Rec)
 | [] => []
 |r :: rs => (k,r) :: lab (k + 1) rs
theorem qli:∀ (rs:List Rec) (k i:Nat) (r:Rec),(i,r) ∈ lab k rs ↔ k ≤ i ∧ rs[i - k]? = some r
 | [],k,i,r => by simp [lab]
 |r0 :: rs,k,i,r => by
  simp only [lab,List.mem_cons,Prod.mk.injEq,qli rs (k + 1) i r]
  constructor
  ·rintro (⟨rfl,rfl⟩ | ⟨h1,h2⟩)
   ·simp
   ·refine ⟨by omega,?_⟩
    have:i - k = (i - (k + 1)) + 1 :=by omega
    rw [this];simpa using h2
  ·rintro ⟨h1,h2⟩
   by_cases e:i = k
   ·subst e
    simp at h2
    exact .inl ⟨rfl,h2.symm⟩
   ·right
    have:i - k = (i - (k + 1)) + 1 :=by omega
    rw [this] at h2
    exact ⟨by omega,by simpa using h2⟩
theorem qj0:∀ (rs:List Rec) (k:Nat),(lab k rs).length = rs.length
 | [],_ => rfl
 | _ :: rs,k => by simp [lab,qj0 rs (k + 1)]
theorem qhd {Q:Nat × Rec → Nat × Rec → Prop}:∀ (rs:List Rec) (k:Nat),(∀ i j a b,k ≤ i → i < j → rs[i - k]? = some a → rs[j - k]? = some b → Q (i,a) (j,b)) → (lab k rs).Pairwise Q
 | [],_,_ => List.Pairwise.nil
 |r :: rs,k,h => by
  refine List.pairwise_cons.2 ⟨fun p hp => ?_,qhd rs (k + 1) fun i j a b h1 h2 h3 h4 => ?_⟩
  ·obtain ⟨h1,h2⟩ :=(qli rs (k + 1) p.1 p.2).1 hp
   refine h k p.1 r p.2 (Nat.le_refl _) (by omega) (by simp) ?_
   have:p.1 - k = (p.1 - (k + 1)) + 1 :=by omega
   rw [this];simpa using h2
  ·refine h i j a b (by omega) h2 ?_ ?_
   ·have:i - k = (i - (k + 1)) + 1 :=by omega
    rw [this];simpa using h3
   ·have:j - k = (j - (k + 1)) + 1 :=by omega
    rw [this];simpa using h4
def quj (base:Nat) (rs:List Rec) (U:List (Nat × Nat)):Bool :=
 U.all fun p => match rs[p.1]? with
  |some a => match rs[p.2]? with
   |some b => indB base p.1 a p.2 b
   |none => false
  |none => false
variable {P:Program} {T:Tr TypeInfo} {F:Tr Func} {X:XT} {B:Nat}
theorem Sem.region_drawn (hT:TOK P T) (hF:FOK P F) (hX:XOK P X) (hmx:P.follows .mixedOrders = true) {id:Nat} {U:List (Nat × Nat)} (hU:qvv ops = some U) {rs:List Rec} (hlen:rs.length = ops.size)
  {σ σ':St} (hind:quj σ.H.n rs U = true) (hch:qjh P T F X B ops σ.H.n (lab 0 rs) { σ with H :=σ.H.room ops.size } σ'):Sem P B (.region id ops true) σ .normal σ' :=by
 obtain ⟨htop,hun⟩ :=qvu hU
 have hmem:∀ i,(∃ r,(i,r) ∈ lab 0 rs) ↔ (i < ops.size ∧ (Array.replicate ops.size false).getD i true = false) :=by
  intro i
  constructor
  ·rintro ⟨r,hr⟩
   have h1 :=((qli rs 0 i r).1 hr).2
   have h2:i < ops.size :=by
    have :=(List.getElem?_eq_some_iff.1 h1).1
    omega
   exact ⟨h2,by simp [h2]⟩
  ·rintro ⟨h1,_⟩
   have h2:i < rs.length :=by omega
   exact ⟨rs[i],(qli rs 0 i _).2 ⟨Nat.zero_le _,by simp [h2]⟩⟩
 have hpw:(lab 0 rs).Pairwise (fun a b => a.1 < b.1 ∧ (Anc ops b.1 a.1 ∨ Ind ops σ.H.n a b)) :=by
  refine qhd rs 0 fun i j a b _ hij ha hb => ⟨hij,?_⟩
  have hj:j < ops.size :=by
   have :=(List.getElem?_eq_some_iff.1 hb).1
   omega
  rcases hun i j hij hj with h | ⟨h1,h2⟩
  ·exact .inl h
  ·refine .inr ⟨h2,qzx ?_⟩
   have :=List.all_eq_true.1 hind _ h1
   simp only [Nat.sub_zero] at ha hb
   simpa [ha,hb] using this
 have hd:qxm ops (Array.replicate ops.size false) :=by
  intro i o h
  exfalso
  rw [Array.getD_eq_getD_getElem?,Array.getElem?_replicate] at h
  split at h <;> simp at h
 intro g fr cs w k hr hm ht hro k' hk
 have hdr:Out g B w σ.H g w.drew (σ.H.room ops.size) :=
  ⟨(Out.drew hr.h).rel.room _,(Out.drew hr.h).ext,(Out.drew hr.h).below,fun _ h => h,(Out.drew hr.h).frame,(Out.drew hr.h).own⟩
 have hr1 :=hr.out hdr
 have hmain :=fun t => q1d hT hF hX htop rs.length (lab 0 rs) t (Array.replicate ops.size false) _ _ (qj0 rs 0) (by simp) hd hmem hpw hch
 simp only [List.cons_append,List.nil_append] at ht
 have hstep:∃ t,Steps P (lone fr cs w) (lone { fr with todo :=.inRegion ops (Region.linearise .any ops t) :: k } cs w.drew) :=by
  have hrun:∃ t,(choose (.order fr.fn id)).run P w = .ok t w.drew :=by
   rw [run_choose_drew]
   exact ⟨_,rfl⟩
  obtain ⟨t,ht'⟩ :=hrun
  refine ⟨t,qa6 ?_⟩
  simp [-run_choose,-run_choose_drew,stepG,stepG.exec,hm,ht,ht',Region.schedule,hmx]
 obtain ⟨t,hstep⟩ :=hstep
 have hm1 :=hmain t
 rw [hlen] at hm1
 obtain ⟨g1,fr1,cs1,w1,q1,q2,q3,q4,q5,q6,q7⟩ :=hm1 g { fr with todo :=.inRegion ops (Region.linearise .any ops t) :: k } cs w.drew k (hr1.todo _) hm rfl (fun e => by cases e) k' hk
 exact ⟨g1,fr1,cs1,w1,q1,hdr.trans q2,⟨q3.fn,q3.kind,q3.round⟩,q4,q5,q6,hstep.trans q7⟩
end
end
end Go.Abs

namespace Go.Abs
open Go
noncomputable section
abbrev bif2 (b:Bool) (F T:Prop):Prop :=@Bool.rec (fun _ => Prop) F T b
def fcN (y:Bool) (n:Nat) (K:Nat → Prop):Prop :=@Bool.rec (fun _ => Prop) (@Nat.rec (fun _ => Prop) (K 0) (fun m _ => K (Nat.succ m)) n) (K n) y
theorem qu1 {y:Bool} {n:Nat} {K:Nat → Prop} (h:fcN y n K):K n :=by
 cases y with
 |true => exact h
 |false => cases n <;> exact h
theorem qbj {n:Nat} {K:Nat → Prop} (h:fcN false n K):K n :=qu1 h
def fcI0 (i:Int) (K:Int → Prop):Prop :=
 @Int.rec (fun _ => Prop) (fun n => fcN false n fun n => K (.ofNat n)) (fun n => fcN false n fun n => K (.negSucc n)) i
theorem qz7 {i:Int} {K:Int → Prop} (h:fcI0 i K):K i :=by
 cases i with
 |ofNat n => exact qbj (K :=fun n => K (.ofNat n)) h
 |negSucc n => exact qbj (K :=fun n => K (.negSucc n)) h
def fcB (b:Bool) (K:Bool → Prop):Prop :=@Bool.rec (fun _ => Prop) (K false) (K true) b
theorem q1m {b:Bool} {K:Bool → Prop} (h:fcB b K):K b :=by cases b <;> exact h
def fcU (u:UInt8) (K:UInt8 → Prop):Prop :=fcN false u.toNat fun n => K (UInt8.ofNat n)
theorem qx8 {u:UInt8} {K:UInt8 → Prop} (h:fcU u K):K u :=by
 have :=qbj (K :=fun n => K (UInt8.ofNat n)) h
 simpa using this
def fcL0 {α:Type} (f:α → (α → Prop) → Prop) (xs:List α):(List α → Prop) → Prop :=
 @List.rec α (fun _ => (List α → Prop) → Prop) (fun K => K []) (fun x _ ih K => f x fun x => ih fun xs => K (x :: xs)) xs
theorem qfa {α:Type} {f:α → (α → Prop) → Prop} (hf:∀ x K,f x K → K x):∀ (xs:List α) (K:List α → Prop),fcL0 f xs K → K xs
 | [],_,h => h
 |x :: xs,K,h => qfa hf xs (fun xs => K (x :: xs)) (hf x (fun x => fcL0 f xs fun xs => K (x :: xs)) h)
def fcL {α:Type} (y:Bool) (f:α → (α → Prop) → Prop) (xs:List α) (K:List α → Prop):Prop :=@Bool.rec (fun _ => Prop) (fcL0 f xs K) (K xs) y
theorem q1k {α:Type} {y:Bool} {f:α → (α → Prop) → Prop} (hf:∀ x K,f x K → K x) (xs:List α) (K:List α → Prop) (h:fcL y f xs K):K xs :=by
 cases y with
 |true => exact h
 |false => exact qfa hf xs K h
def fcS {α:Type} (xs:List α):(List α → Prop) → Prop :=
 @List.rec α (fun _ => (List α → Prop) → Prop) (fun K => K []) (fun x _ ih K => ih fun xs => K (x :: xs)) xs
theorem qx9 {α:Type}:∀ (xs:List α) (K:List α → Prop),fcS xs K → K xs
 | [],_,h => h
 |x :: xs,K,h => qx9 xs (fun xs => K (x :: xs)) h
abbrev FV :=(AV → Prop) → Prop
def fcH0 (v:AV):(AV → Prop) → Prop :=
 @AV.rec (fun _ => FV) (fun _ => Unit)
  (fun K => K .unk)
  (fun k n K => K (.int k n))
  (fun b K => K (.bool b))
  (fun s K => K (.str s))
  (fun K => K .nilp)
  (fun o off K => K (.ptr o off))
  (fun xs off _ K => K (.lptr xs off))
  (fun g off K => K (.gp g off))
  (fun K => K .nils)
  (fun o off len cap K => K (.slc o off len cap))
  (fun xs n own _ K => K (.lst xs n own))
  (fun K => K .nilm)
  (fun o K => K (.map o))
  (fun K => K .nilf)
  (fun fn f c _ _ K => K (.func fn f c))
  (fun o K => K (.yld o))
  (fun K => K .nili)
  (fun t a _ K => K (.iface t a))
  (fun cs _ K => K (.agg cs))
  (fun vs _ K => K (.tup vs))
  () (fun _ _ _ _ => ()) v
def qqs (v:AV):Option Bool :=
 @AV.rec (fun _ => Option Bool) (fun _ => Unit)
  none (fun _ _ => none) (fun b => some b) (fun _ => none) none (fun _ _ => none) (fun _ _ _ => none) (fun _ _ => none) none (fun _ _ _ _ => none) (fun _ _ _ _ => none)
  none (fun _ => none) none (fun _ _ _ _ _ => none) (fun _ => none) none (fun _ _ _ => none) (fun _ _ => none) (fun _ _ => none)
  () (fun _ _ _ _ => ()) v
theorem qvi {v:AV} {b:Bool} (h:qqs v = some b):v = .bool b :=by
 cases v <;> cases h <;> rfl
theorem qfb {v:AV} {K:AV → Prop} (h:fcH0 v K):K v :=by cases v <;> exact h
def quz (w:Own) (K:Own → Prop):Prop :=
 match w with
 | .no => K .no
 | .full => K .full
 | .ch c => fcN false c fun c => K (.ch c)
theorem qw3 {w:Own} {K:Own → Prop} (h:quz w K):K w :=by
 cases w with
 |ch c => exact qbj (K :=fun c => K (.ch c)) h
 | _ => exact h
def fcA0 (v:AV):(AV → Prop) → Prop :=
 @AV.rec (fun _ => FV) (fun _ => Unit)
  (fun K => K .unk)
  (fun k n K => fcI0 n fun n => K (.int k n))
  (fun b K => fcB b fun b => K (.bool b))
  (fun s K => fcL0 fcU s fun s => K (.str s))
  (fun K => K .nilp)
  (fun o off K => fcN false o fun o => fcN false off fun off => K (.ptr o off))
  (fun xs off _ K => fcL0 fcH0 xs fun xs => fcN false off fun off => K (.lptr xs off))
  (fun g off K => fcN false g fun g => fcN false off fun off => K (.gp g off))
  (fun K => K .nils)
  (fun o off len cap K => fcN false o fun o => fcN false off fun off => fcN false len fun len => fcN false cap fun cap => K (.slc o off len cap))
  (fun xs n own _ K => fcL0 fcH0 xs fun xs => fcN false n fun n => quz own fun own => K (.lst xs n own))
  (fun K => K .nilm)
  (fun o K => fcN false o fun o => K (.map o))
  (fun K => K .nilf)
  (fun fn f c _ _ K => fcL0 fcH0 f fun f => fcL0 fcH0 c fun c => K (.func fn f c))
  (fun o K => K (.yld o))
  (fun K => K .nili)
  (fun t a _ K => fcH0 a fun a => K (.iface t a))
  (fun cs _ K => fcL0 fcH0 cs fun cs => K (.agg cs))
  (fun vs _ K => fcL0 fcH0 vs fun cs => K (.tup cs))
  () (fun _ _ _ _ => ()) v
theorem fcLH {xs:List AV} {K:List AV → Prop} (h:fcL0 fcH0 xs K):K xs :=qfa (fun _ _ h => qfb h) xs K h
theorem qlt {v:AV} {K:AV → Prop} (h:fcA0 v K):K v :=by
 cases v with
 |int k n => exact qz7 (K :=fun n => K (.int k n)) h
 |bool b => exact q1m (K :=fun b => K (.bool b)) h
 |str s => exact qfa (fun _ _ h => qx8 h) s (fun s => K (.str s)) h
 |ptr o off => exact qbj (K :=fun off => K (.ptr o off)) (qbj (K :=fun o => fcN false off fun off => K (.ptr o off)) h)
 |gp o off => exact qbj (K :=fun off => K (.gp o off)) (qbj (K :=fun o => fcN false off fun off => K (.gp o off)) h)
 |lptr xs off => exact qbj (K :=fun off => K (.lptr xs off)) (fcLH (K :=fun xs => fcN false off fun off => K (.lptr xs off)) h)
 |slc o off len cap =>
  have h1 :=qbj (K :=fun o => fcN false off fun off => fcN false len fun len => fcN false cap fun cap => K (.slc o off len cap)) h
  have h2 :=qbj (K :=fun off => fcN false len fun len => fcN false cap fun cap => K (.slc o off len cap)) h1
  have h3 :=qbj (K :=fun len => fcN false cap fun cap => K (.slc o off len cap)) h2
  exact qbj (K :=fun cap => K (.slc o off len cap)) h3
 |lst xs n own =>
  have h1 :=fcLH (K :=fun xs => fcN false n fun n => quz own fun own => K (.lst xs n own)) h
  have h2 :=qbj (K :=fun n => quz own fun own => K (.lst xs n own)) h1
  exact qw3 (K :=fun own => K (.lst xs n own)) h2
 |map o => exact qbj (K :=fun o => K (.map o)) h
 |func fn f c =>
  have h1 :=fcLH (K :=fun f => fcL0 fcH0 c fun c => K (.func fn f c)) h
  exact fcLH (K :=fun c => K (.func fn f c)) h1
 |agg cs => exact fcLH (K :=fun cs => K (.agg cs)) h
 |tup cs => exact fcLH (K :=fun cs => K (.tup cs)) h
 |iface t a => exact qfb (K :=fun a => K (.iface t a)) h
 | _ => exact h
def fcV0 (v:AV):(AV → Prop) → Prop :=
 @AV.rec (fun _ => FV) (fun _ => Unit)
  (fun K => K .unk)
  (fun k n K => fcI0 n fun n => K (.int k n))
  (fun b K => fcB b fun b => K (.bool b))
  (fun s K => fcL0 fcU s fun s => K (.str s))
  (fun K => K .nilp)
  (fun o off K => fcN false o fun o => fcN false off fun off => K (.ptr o off))
  (fun xs off _ K => fcL0 fcH0 xs fun xs => fcN false off fun off => K (.lptr xs off))
  (fun g off K => fcN false g fun g => fcN false off fun off => K (.gp g off))
  (fun K => K .nils)
  (fun o off len cap K => fcN false o fun o => fcN false off fun off => fcN false len fun len => fcN false cap fun cap => K (.slc o off len cap))
  (fun xs n own _ K => fcL0 fcH0 xs fun xs => fcN false n fun n => quz own fun own => K (.lst xs n own))
  (fun K => K .nilm)
  (fun o K => fcN false o fun o => K (.map o))
  (fun K => K .nilf)
  (fun fn f c _ _ K => fcL0 fcH0 f fun f => fcL0 fcH0 c fun c => K (.func fn f c))
  (fun o K => K (.yld o))
  (fun K => K .nili)
  (fun t a _ K => fcA0 a fun a => K (.iface t a))
  (fun cs _ K => fcL0 fcA0 cs fun cs => K (.agg cs))
  (fun vs _ K => fcL0 fcA0 vs fun cs => K (.tup cs))
  () (fun _ _ _ _ => ()) v
theorem quy {v:AV} {K:AV → Prop} (h:fcV0 v K):K v :=by
 cases v with
 |agg cs => exact qfa (fun _ _ h => qlt h) cs (fun cs => K (.agg cs)) h
 |tup cs => exact qfa (fun _ _ h => qlt h) cs (fun cs => K (.tup cs)) h
 |iface t a => exact qlt (K :=fun a => K (.iface t a)) h
 | _ => exact qlt h
def fcM0 (v:AV):(AV → Prop) → Prop :=
 @AV.rec (fun _ => FV) (fun _ => Unit)
  (fun K => K .unk)
  (fun k n K => K (.int k n))
  (fun b K => K (.bool b))
  (fun s K => K (.str s))
  (fun K => K .nilp)
  (fun o off K => K (.ptr o off))
  (fun xs off _ K => K (.lptr xs off))
  (fun g off K => K (.gp g off))
  (fun K => K .nils)
  (fun o off len cap K => K (.slc o off len cap))
  (fun xs n own _ K => K (.lst xs n own))
  (fun K => K .nilm)
  (fun o K => K (.map o))
  (fun K => K .nilf)
  (fun fn f c _ _ K => K (.func fn f c))
  (fun o K => K (.yld o))
  (fun K => K .nili)
  (fun t a _ K => K (.iface t a))
  (fun cs _ K => fcL0 fcH0 cs fun cs => K (.agg cs))
  (fun vs _ K => fcL0 fcH0 vs fun cs => K (.tup cs))
  () (fun _ _ _ _ => ()) v
theorem qls {v:AV} {K:AV → Prop} (h:fcM0 v K):K v :=by
 cases v with
 |agg cs => exact fcLH (K :=fun cs => K (.agg cs)) h
 |tup cs => exact fcLH (K :=fun cs => K (.tup cs)) h
 | _ => exact h
def fcV (y:Bool) (v:AV) (K:AV → Prop):Prop :=@Bool.rec (fun _ => Prop) (fcV0 v K) (fcM0 v K) y
theorem qx7 {y:Bool} {v:AV} {K:AV → Prop} (h:fcV y v K):K v :=by
 cases y with
 |true => exact qls h
 |false => exact quy h
def fcE (p:AV × AV) (K:AV × AV → Prop):Prop :=
 match p with
 |(a,b) => fcH0 a fun a => fcH0 b fun b => K (a,b)
theorem q1l {p:AV × AV} {K:AV × AV → Prop} (h:fcE p K):K p :=by
 obtain ⟨a,b⟩ :=p
 exact qfb (K :=fun b => K (a,b)) (qfb (K :=fun a => fcH0 b fun b => K (a,b)) h)
def fcO0 (x:AObj) (K:AObj → Prop):Prop :=
 match x with
 | .cells t n ty => fcN false n fun n => K (.cells t n ty)
 | .chain n sz ty => fcN false n fun n => fcN false sz fun sz => K (.chain n sz ty)
 | .mapo es => fcL0 fcE es fun es => K (.mapo es)
 | .siter s pos => fcL0 fcU s fun s => fcN false pos fun pos => K (.siter s pos)
 |x => K x
theorem qz5 {x:AObj} {K:AObj → Prop} (h:fcO0 x K):K x :=by
 cases x with
 |cells t n ty => exact qbj (K :=fun n => K (.cells t n ty)) h
 |chain n sz ty => exact qbj (K :=fun sz => K (.chain n sz ty)) (qbj (K :=fun n => fcN false sz fun sz => K (.chain n sz ty)) h)
 |mapo es => exact qfa (fun _ _ h => q1l h) es (fun es => K (.mapo es)) h
 |siter s pos =>
  have h1 :=qfa (fun _ _ h => qx8 h) s (fun s => fcN false pos fun pos => K (.siter s pos)) h
  exact qbj (K :=fun pos => K (.siter s pos)) h1
 | _ => exact h
def fcO (y:Bool) (x:AObj) (K:AObj → Prop):Prop :=@Bool.rec (fun _ => Prop) (fcO0 x K) (K x) y
theorem qya {y:Bool} {x:AObj} {K:AObj → Prop} (h:fcO y x K):K x :=by
 cases y with
 |true => exact h
 |false => exact qz5 h
def putL {α:Type} (xs:List α):Nat → Tr α → (Tr α → Prop) → Prop :=
 @List.rec α (fun _ => Nat → Tr α → (Tr α → Prop) → Prop) (fun _ t K => K t) (fun x _ ih i t K => t.insK i x fun t => fcN false (Nat.succ i) fun i => ih i t K) xs
theorem putL_ok {α:Type}:∀ (xs:List α) (i:Nat) (t:Tr α) (K:Tr α → Prop),putL xs i t K → ∃ t',K t' ∧ ∀ j,t'.get j = if i ≤ j ∧ j < i + xs.length then xs[j - i]? else t.get j
 | [],i,t,K,h => ⟨t,h,fun j => by simp;omega⟩
 |x :: xs,i,t,K,h => by
  obtain ⟨t1,h1,h2⟩ :=Tr.insK_spec t i (fun t => fcN false (Nat.succ i) fun i => putL xs i t K) h
  obtain ⟨t',h3,h4⟩ :=putL_ok xs _ t1 K (qbj (K :=fun i => putL xs i t1 K) h1)
  refine ⟨t',h3,fun j => ?_⟩
  rw [h4,h2]
  by_cases e:j = i
  ·subst e;simp;intro h;omega
  ·rw [if_neg e]
   by_cases h5:i + 1 ≤ j ∧ j < i + 1 + xs.length
   ·rw [if_pos h5,if_pos (by simp only [List.length_cons];omega)]
    have:j - i = (j - (i + 1)) + 1 :=by omega
    rw [this];simp
   ·rw [if_neg h5,if_neg (by simp only [List.length_cons];omega)]
def setL {α:Type} (xs:List α):Nat → Tr α → (Tr α → Prop) → Prop :=
 @List.rec α (fun _ => Nat → Tr α → (Tr α → Prop) → Prop) (fun _ t K => K t) (fun x _ ih i t K => t.setK i x fun t => fcN false (Nat.succ i) fun i => ih i t K) xs
theorem qnv {α:Type}:∀ (xs:List α) (i:Nat) (t:Tr α) (K:Tr α → Prop),setL xs i t K → ∃ t',K t' ∧ ∀ j,t'.get j = if i ≤ j ∧ j < i + xs.length then xs[j - i]? else t.get j
 | [],i,t,K,h => ⟨t,h,fun j => by simp;omega⟩
 |x :: xs,i,t,K,h => by
  obtain ⟨t1,h1,_,h2⟩ :=Tr.setK_spec t i (fun t => fcN false (Nat.succ i) fun i => setL xs i t K) h
  obtain ⟨t',h3,h4⟩ :=qnv xs _ t1 K (qbj (K :=fun i => setL xs i t1 K) h1)
  refine ⟨t',h3,fun j => ?_⟩
  rw [h4,h2]
  by_cases e:j = i
  ·subst e;simp;intro h;omega
  ·rw [if_neg e]
   by_cases h5:i + 1 ≤ j ∧ j < i + 1 + xs.length
   ·rw [if_pos h5,if_pos (by simp only [List.length_cons];omega)]
    have:j - i = (j - (i + 1)) + 1 :=by omega
    rw [this];simp
   ·rw [if_neg h5,if_neg (by simp only [List.length_cons];omega)]
def repL {α:Type} (x:α) (n:Nat) (K:Tr α → Prop):Prop :=Tr.copyK x 64 n fun _ t => K t
theorem qny {α:Type} {x:α} {n:Nat} {K:Tr α → Prop} (h:repL x n K):∃ t,K t ∧ ∀ j,t.get j = if j < n then some x else none :=by
 obtain ⟨_,t,h1,_,h2⟩ :=Tr.copyK_spec 64 n _ h
 exact ⟨t,h1,h2⟩
theorem qm6 {α:Type} (x:α):∀ (f n:Nat),n + 1 < 2 ^ f → ∃ s t:Tr α,∀ K:Tr α → Tr α → Prop,Tr.copyK x f n K ↔ K s t
 | 0,n,h => by simp at h
 |f + 1,0,_ => ⟨.node x .nil .nil,.nil,fun K => Iff.rfl⟩
 |f + 1,n + 1,h => by
  have h2:n / 2 + 1 < 2 ^ f :=by rw [Nat.pow_succ] at h;omega
  obtain ⟨s,t,hk⟩ :=qm6 x f (n / 2) h2
  by_cases e:n % 2 = 0
  ·refine ⟨.node x s t,.node x t t,fun K => ?_⟩
   rw [Tr.copyK,hk,e];exact Iff.rfl
  ·have e:n % 2 = 1 :=by omega
   refine ⟨.node x s s,.node x s t,fun K => ?_⟩
   rw [Tr.copyK,hk,e];exact Iff.rfl
theorem q00 {α:Type} (x:α) (n:Nat):∃ t:Tr α,∀ j,t.get j = if j < n then some x else none :=by
 have hn:n + 1 < 2 ^ (n + 1) :=Nat.lt_two_pow_self
 obtain ⟨s,t,hk⟩ :=qm6 x (n + 1) n hn
 obtain ⟨_,t',_,_,h2⟩ :=Tr.copyK_spec (n + 1) n (fun a b => a = s ∧ b = t) ((hk _).2 ⟨rfl,rfl⟩)
 exact ⟨t',h2⟩
def repS {α:Type} (x:α) (n:Nat) (K:Tr α → Prop):Prop :=∀ t:Tr α,(∀ j,t.get j = if j < n then some x else none) → K t
def repY {α:Type} (y:Bool) (x:α) (n:Nat) (K:Tr α → Prop):Prop :=
 @Bool.rec (fun _ => Prop) (repL x n K) (@Bool.rec (fun _ => Prop) (repL x n K) (repS x n K) (Nat.ble 32 n)) y
theorem qyw {α:Type} {y:Bool} {x:α} {n:Nat} {K:Tr α → Prop} (h:repY y x n K):∃ t,K t ∧ ∀ j,t.get j = if j < n then some x else none :=by
 cases y with
 |false => exact qny h
 |true =>
  unfold repY at h
  cases e:Nat.ble 32 n with
  |false => rw [e] at h;exact qny h
  |true =>
   rw [e] at h
   obtain ⟨t,ht⟩ :=q00 x n
   exact ⟨t,h t ht,ht⟩
def hv (h:Tr AObj) (i:Nat):AObj :=
 match h.get i with
 |some x => x
 |none => .hole
def putO (h:Tr AObj) (n s:Nat) (x:AObj) (K:Tr AObj → Nat → Prop):Prop :=
 @Bool.rec (fun _ => Prop) (h.setK s x fun h => K h n) (h.insK s x fun h => fcN false (Nat.succ n) fun n => K h n) (Nat.beq s n)
def HEnd (h:Tr AObj) (n:Nat):Prop :=∀ i,n ≤ i → h.get i = none
theorem HEnd.hole {h:Tr AObj} {n:Nat} (he:HEnd h n) {i:Nat} (hi:n ≤ i):hv h i = .hole :=by simp [hv,he i hi]
theorem qeo {h:Tr AObj} {n s:Nat} {x:AObj} {K:Tr AObj → Nat → Prop} (hp:putO h n s x K) (he:HEnd h n):∃ h' n',K h' n' ∧ hv h' = upd (hv h) s x ∧ HEnd h' n' ∧ n ≤ n' :=by
 unfold putO at hp
 cases e:Nat.beq s n with
 |true =>
  rw [e] at hp
  have e:s = n :=Nat.eq_of_beq_eq_true e
  obtain ⟨h',h1,h2⟩ :=Tr.insK_spec h s (fun h => fcN false (Nat.succ n) fun n => K h n) hp
  have h1 :=qbj (K :=fun n => K h' n) h1
  have hh:hv h' = upd (hv h) s x :=by
   funext j
   simp only [hv,upd,h2]
   by_cases e:j = s
   ·simp [e]
   ·simp [e]
  refine ⟨h',n + 1,h1,hh,fun i hi => ?_,by omega⟩
  rw [h2,if_neg (by omega)]
  exact he i (by omega)
 |false =>
  rw [e] at hp
  obtain ⟨h',h1,⟨y,hy⟩,h2⟩ :=Tr.setK_spec h s (fun h => K h n) hp
  have hh:hv h' = upd (hv h) s x :=by
   funext j
   simp only [hv,upd,h2]
   by_cases e:j = s
   ·simp [e]
   ·simp [e]
  refine ⟨h',n,h1,hh,fun i hi => ?_,Nat.le_refl _⟩
  have hs:s < n :=Nat.lt_of_not_le fun hle => by rw [he s hle] at hy;cases hy
  rw [h2,if_neg (by omega)]
  exact he i hi
def getO (h:Tr AObj) (i:Nat) (K:AObj → Prop):Prop :=@Option.rec AObj (fun _ => Prop) False (fun x => K x) (h.get i)
abbrev KP :=PRes → List Nat → WL → Tr AObj → Nat → Prop
def qpf (x:AObj):Bool → Nat → Nat → List AV → Tr AObj → Nat → (Tr AObj → Nat → AObj → Prop) → Prop :=
 match x with
 | .cells t m ty => fun y i off vs h n K => @Bool.rec (fun _ => Prop) False (fcL0 fcH0 vs fun vs => fcN y off fun off => setL vs off t fun t => putO h n i (.cells t m ty) fun h n => K h n (.cells t m ty)) (Nat.ble (off + vs.length) m)
 | _ => fun _ _ _ _ _ _ _ => False
def runP (p:Plan):Bool → Nat → Tr AObj → Nat → KP → Prop :=
 @Plan.rec (fun _ => Bool → Nat → Tr AObj → Nat → KP → Prop)
  (fun v _ _ h n K => K (.val v) [] [] h n)
  (fun _ _ h n K => K .skip [] [] h n)
  (fun _ _ _ _ _ => False)
  (fun b _ ih y s h n K => @Bool.rec (fun _ => Prop) False (ih y s h n K) b)
  (fun xs _ ih y s h n K => fcL y fcH0 xs fun xs => ih xs y s h n K)
  (fun i _ ih y s h n K => fcN false i fun i => getO h i fun x => ih x y s h n fun r R W h n => K r (i :: R) W h n)
  (fun i off vs _ ih y s h n K => fcN false i fun i => getO h i fun x => qpf x y i off vs h n fun h n x' => ih y s h n fun r R W h n => K r (i :: R) ((i,x',bdl vs) :: W) h n)
  (fun i x rb _ ih y s h n K => fcN false i fun i => fcO y x fun x => putO h n i x fun h n => ih y s h n fun r R W h n => K r (i :: R) ((i,x,rb) :: W) h n)
  (fun cs ty _ ih y s h n K => fcL0 fcH0 cs fun cs => putL cs 0 .nil fun t => fcN false cs.length fun m => putO h n s (.cells t m ty) fun h n => ih s y s h n fun r R W h n => K r R ((s,.cells t m ty,bdl cs) :: W) h n)
  (fun m x ty _ ih y s h n K => fcN false m fun m => fcH0 x fun x => repY y x m fun t => putO h n s (.cells t m ty) fun h n => ih s y s h n fun r R W h n => K r R ((s,.cells t m ty,bd x) :: W) h n)
  (fun x _ ih y s h n K => fcO y x fun x => putO h n s x fun h n => ih s y s h n fun r R W h n => K r R ((s,x,0) :: W) h n)
  (fun f args _ _ h n K => fcN false f fun f => fcL0 fcH0 args fun args => K (.call f args) [] [] h n)
  (fun l args _ _ h n K => fcN false l fun l => fcL0 fcH0 args fun args => K (.yld l args) [] [] h n)
  (fun f args _ _ h n K => fcN false f fun f => fcL0 fcH0 args fun args => K (.defr f args) [] [] h n)
  (fun _ _ h n K => K .recover [] [] h n)
  (fun v y _ h n K => fcV y v fun v => K (.panic v) [] [] h n)
  p
def appO (o:Nat → AObj):WL → Nat → AObj
 | [] => o
 |(i,x,_) :: W => appO (upd o i x) W
theorem qly:∀ (W:WL) (H:AH),(H.app W).o = appO H.o W
 | [],_ => rfl
 |(i,x,r) :: W,H => qly W (H.put i x r)
theorem qiy {h:Tr AObj} {i:Nat} {K:AObj → Prop} (hg:getO h i K):K (hv h i) :=by
 unfold getO at hg
 unfold hv
 cases e:h.get i with
 |none => rw [e] at hg;exact hg.elim
 |some x => rw [e] at hg;exact hg
theorem qz6 {y:Bool} {xs:List AV} {K:List AV → Prop} (h:fcL y fcH0 xs K):K xs :=q1k (fun _ _ h => qfb h) xs K h
theorem qsw {x:AObj} {y:Bool} {i off:Nat} {vs:List AV} {h:Tr AObj} {n:Nat} {K:Tr AObj → Nat → AObj → Prop} (hk:qpf x y i off vs h n K) (he:HEnd h n) :
  ∃ t m ty t' h' n',x = .cells t m ty ∧ off + vs.length ≤ m ∧ TSet t off vs t' ∧ K h' n' (.cells t' m ty) ∧ hv h' = upd (hv h) i (.cells t' m ty) ∧ HEnd h' n' ∧ n ≤ n' :=by
 cases x with
 |cells t m ty =>
  simp only [qpf] at hk
  cases hb:Nat.ble (off + vs.length) m with
  |false => rw [hb] at hk;exact hk.elim
  |true =>
   rw [hb] at hk
   have hb :=Nat.le_of_ble_eq_true hb
   have h3 :=qu1 (fcLH (K :=fun vs => fcN y off fun off => setL vs off t fun t => putO h n i (.cells t m ty) fun h n => K h n (.cells t m ty)) hk)
   obtain ⟨t',h4,h5⟩ :=qnv _ _ _ _ h3
   obtain ⟨h',n',h6,h7,h8,h9⟩ :=qeo h4 he
   exact ⟨t,m,ty,t',h',n',rfl,hb,h5,h6,h7,h8,h9⟩
 | _ => exact hk.elim
theorem qdr {y:Bool} {s:Nat}:∀ (p:Plan) (h:Tr AObj) (n:Nat) (K:KP),runP p y s h n K → HEnd h n →
  ∃ r R W h' n',EvF s p (hv h) r R W ∧ K r R W h' n' ∧ hv h' = appO (hv h) W ∧ HEnd h' n' ∧ n ≤ n'
 | .ret v,h,n,K,hk,he => ⟨_,_,_,_,_,⟨rfl,rfl,rfl⟩,hk,rfl,he,Nat.le_refl _⟩
 | .skip,h,n,K,hk,he => ⟨_,_,_,_,_,⟨rfl,rfl,rfl⟩,hk,rfl,he,Nat.le_refl _⟩
 | .fail,_,_,_,hk,_ => False.elim hk
 | .chk b k,h,n,K,hk,he => by
  cases b with
  |false => exact False.elim hk
  |true =>
   obtain ⟨r,R,W,h',n',h1,h2⟩ :=qdr k h n K hk he
   exact ⟨r,R,W,h',n',⟨rfl,h1⟩,h2⟩
 | .fL xs k,h,n,K,hk,he => qdr (k xs) h n K (qz6 (K :=fun xs => runP (k xs) y s h n K) hk) he
 | .get i k,h,n,K,hk,he => by
  have h1 :=qbj (K :=fun i => getO h i fun x => runP (k x) y s h n fun r R W h n => K r (i :: R) W h n) hk
  have h2 :=qiy h1
  obtain ⟨r,R,W,h',n',q1,q2⟩ :=qdr (k (hv h i)) h n _ h2 he
  exact ⟨r,i :: R,W,h',n',⟨R,rfl,q1⟩,q2⟩
 | .setcs i off vs k,h,n,K,hk,he => by
  have h1 :=qiy (qbj (K :=fun i => getO h i fun x => qpf x y i off vs h n fun h n x' => runP k y s h n fun r R W h n => K r (i :: R) ((i,x',bdl vs) :: W) h n) hk)
  obtain ⟨t,m,ty,t',h',n',ho,hb,h5,h6,h7,h8,h9⟩ :=qsw h1 he
  obtain ⟨r,R,W,h'',n'',q1,q2,q3,q4,q5⟩ :=qdr k h' n' _ h6 h8
  rw [h7] at q1 q3
  exact ⟨r,i :: R,_,h'',n'',⟨R,W,t,m,ty,t',rfl,ho,hb,h5,rfl,q1⟩,q2,q3,q4,by omega⟩
 | .seto i x rb k,h,n,K,hk,he => by
  have h2 :=qya (qbj (K :=fun i => fcO y x fun x => putO h n i x fun h n => runP k y s h n fun r R W h n => K r (i :: R) ((i,x,rb) :: W) h n) hk)
  obtain ⟨h',n',h6,h7,h8,h9⟩ :=qeo h2 he
  obtain ⟨r,R,W,h'',n'',q1,q2,q3,q4,q5⟩ :=qdr k h' n' _ h6 h8
  rw [h7] at q1 q3
  exact ⟨r,i :: R,_,h'',n'',⟨R,W,rfl,rfl,q1⟩,q2,q3,q4,by omega⟩
 | .newl cs ty k,h,n,K,hk,he => by
  have h2 :=fcLH (K :=fun cs => putL cs 0 .nil fun t => fcN false cs.length fun m => putO h n s (.cells t m ty) fun h n => runP (k s) y s h n fun r R W h n => K r R ((s,.cells t m ty,bdl cs) :: W) h n) hk
  obtain ⟨t,h3,h4⟩ :=putL_ok _ _ _ _ h2
  have h5 :=qbj h3
  obtain ⟨h',n',h6,h7,h8,h9⟩ :=qeo h5 he
  obtain ⟨r,R,W,h'',n'',q1,q2,q3,q4,q5⟩ :=qdr (k s) h' n' _ h6 h8
  rw [h7] at q1 q3
  refine ⟨r,R,_,h'',n'',⟨W,t,fun j => ?_,rfl,q1⟩,q2,q3,q4,by omega⟩
  rw [h4]
  by_cases hj:j < cs.length
  ·simp [hj]
  ·simp [hj]
 | .newc m x ty k,h,n,K,hk,he => by
  have h2 :=qfb (qbj (K :=fun m => fcH0 x fun x => repY y x m fun t => putO h n s (.cells t m ty) fun h n => runP (k s) y s h n fun r R W h n => K r R ((s,.cells t m ty,bd x) :: W) h n) hk)
  obtain ⟨t,h3,h4⟩ :=qyw h2
  obtain ⟨h',n',h6,h7,h8,h9⟩ :=qeo h3 he
  obtain ⟨r,R,W,h'',n'',q1,q2,q3,q4,q5⟩ :=qdr (k s) h' n' _ h6 h8
  rw [h7] at q1 q3
  exact ⟨r,R,_,h'',n'',⟨W,t,h4,rfl,q1⟩,q2,q3,q4,by omega⟩
 | .newo x k,h,n,K,hk,he => by
  obtain ⟨h',n',h6,h7,h8,h9⟩ :=qeo (qya (K :=fun x => putO h n s x fun h n => runP (k s) y s h n fun r R W h n => K r R ((s,x,0) :: W) h n) hk) he
  obtain ⟨r,R,W,h'',n'',q1,q2,q3,q4,q5⟩ :=qdr (k s) h' n' _ h6 h8
  rw [h7] at q1 q3
  exact ⟨r,R,_,h'',n'',⟨W,rfl,q1⟩,q2,q3,q4,by omega⟩
 | .call f args,h,n,K,hk,he => ⟨_,_,_,_,_,⟨rfl,rfl,rfl⟩,fcLH (K :=fun args => K (.call f args) [] [] h n) (qbj (K :=fun f => fcL0 fcH0 args fun args => K (.call f args) [] [] h n) hk),rfl,he,Nat.le_refl _⟩
 | .yld l args,h,n,K,hk,he => ⟨_,_,_,_,_,⟨rfl,rfl,rfl⟩,fcLH (K :=fun args => K (.yld l args) [] [] h n) (qbj (K :=fun f => fcL0 fcH0 args fun args => K (.yld f args) [] [] h n) hk),rfl,he,Nat.le_refl _⟩
 | .defr f args,h,n,K,hk,he => ⟨_,_,_,_,_,⟨rfl,rfl,rfl⟩,fcLH (K :=fun args => K (.defr f args) [] [] h n) (qbj (K :=fun f => fcL0 fcH0 args fun args => K (.defr f args) [] [] h n) hk),rfl,he,Nat.le_refl _⟩
 | .recover,h,n,K,hk,he => ⟨_,_,_,_,_,⟨rfl,rfl,rfl⟩,hk,rfl,he,Nat.le_refl _⟩
 | .panic v,h,n,K,hk,he => ⟨_,_,_,_,_,⟨rfl,rfl,rfl⟩,qx7 (K :=fun v => K (.panic v) [] [] h n) hk,rfl,he,Nat.le_refl _⟩
end
end Go.Abs
/-! Equal values; a table of pure calls. -/
namespace Go.Abs
open Go
noncomputable section
def eqK:IntKind → IntKind → Bool :=fun a b => decide (a = b)
def eqI (a b:Int):Bool :=
 match a with
 | .ofNat n => match b with
  | .ofNat m => Nat.beq n m
  | .negSucc _ => false
 | .negSucc n => match b with
  | .ofNat _ => false
  | .negSucc m => Nat.beq n m
theorem q1u {a b:Int} (h:eqI a b = true):a = b :=by
 cases a <;> cases b <;> simp only [eqI] at h
 ·rw [Nat.eq_of_beq_eq_true h]
 ·cases h
 ·cases h
 ·rw [Nat.eq_of_beq_eq_true h]
def eqB (a b:Bool):Bool :=
 match a with
 |true => b
 |false => match b with
  |true => false
  |false => true
theorem q1v {a b:Bool} (h:eqB a b = true):a = b :=by cases a <;> cases b <;> simp_all [eqB]
def eqS:List UInt8 → List UInt8 → Bool
 | [],ys => match ys with
  | [] => true
  | _ :: _ => false
 |x :: xs,ys => match ys with
  | [] => false
  |y :: ys => match Nat.beq x.toNat y.toNat with
   |true => eqS xs ys
   |false => false
theorem qyb:∀ (a b:List UInt8),eqS a b = true → a = b
 | [],[],_ => rfl
 | [],_ :: _,h => by simp [eqS] at h
 | _ :: _,[],h => by simp [eqS] at h
 |x :: xs,y :: ys,h => by
  simp only [eqS] at h
  split at h
  ·rename_i e
   rw [qyb xs ys h,UInt8.toNat_inj.1 (Nat.eq_of_beq_eq_true e)]
  ·cases h
mutual
def eqA:AV → AV → Bool
 | .int k n,v => match v with
  | .int k' n' => match eqK k k' with
   |true => eqI n n'
   |false => false
  | _ => false
 | .bool b,v => match v with
  | .bool b' => eqB b b'
  | _ => false
 | .str s,v => match v with
  | .str s' => eqS s s'
  | _ => false
 | .nilp,v => match v with
  | .nilp => true
  | _ => false
 | .nils,v => match v with
  | .nils => true
  | _ => false
 | .nili,v => match v with
  | .nili => true
  | _ => false
 | .lst xs n own,v => match v with
  | .lst ys m own' => match own with
   | .no => match own' with
    | .no => match Nat.beq n m with
     |true => eqAs xs ys
     |false => false
    | _ => false
   | .full => match own' with
    | .full => match Nat.beq n m with
     |true => eqAs xs ys
     |false => false
    | _ => false
   | .ch _ => false
  | _ => false
 | .agg xs,v => match v with
  | .agg ys => eqAs xs ys
  | _ => false
 | .tup xs,v => match v with
  | .tup ys => eqAs xs ys
  | _ => false
 | _,_ => false
def eqAs:List AV → List AV → Bool
 | [],ys => match ys with
  | [] => true
  | _ :: _ => false
 |x :: xs,ys => match ys with
  | [] => false
  |y :: ys => match eqA x y with
   |true => eqAs xs ys
   |false => false
end
mutual
theorem qyc:∀ (a b:AV),eqA a b = true → a = b
 | .int k n,b,h => by
  simp only [eqA] at h
  split at h <;> try cases h
  split at h <;> try cases h
  rename_i e
  rw [of_decide_eq_true e,q1u h]
 | .bool x,b,h => by
  simp only [eqA] at h
  split at h <;> try cases h
  rw [q1v h]
 | .str s,b,h => by
  simp only [eqA] at h
  split at h <;> try cases h
  rw [qyb _ _ h]
 | .nilp,b,h => by
  simp only [eqA] at h
  split at h <;> first | rfl | cases h
 | .nils,b,h => by
  simp only [eqA] at h
  split at h <;> first | rfl | cases h
 | .nili,b,h => by
  simp only [eqA] at h
  split at h <;> first | rfl | cases h
 | .lst xs n own,b,h => by
  simp only [eqA] at h
  split at h <;> try cases h
  split at h <;> try cases h
  ·split at h <;> try cases h
   split at h <;> try cases h
   rename_i e
   rw [Nat.eq_of_beq_eq_true e,qg4 _ _ h]
  ·split at h <;> try cases h
   split at h <;> try cases h
   rename_i e
   rw [Nat.eq_of_beq_eq_true e,qg4 _ _ h]
 | .agg xs,b,h => by
  simp only [eqA] at h
  split at h <;> try cases h
  rw [qg4 _ _ h]
 | .tup xs,b,h => by
  simp only [eqA] at h
  split at h <;> try cases h
  rw [qg4 _ _ h]
 | .unk,_,h => by simp [eqA] at h
 | .ptr _ _,_,h => by simp [eqA] at h
 | .lptr _ _,_,h => by simp [eqA] at h
 | .gp _ _,_,h => by simp [eqA] at h
 | .slc _ _ _ _,_,h => by simp [eqA] at h
 | .nilm,_,h => by simp [eqA] at h
 | .map _,_,h => by simp [eqA] at h
 | .nilf,_,h => by simp [eqA] at h
 | .func _ _ _,_,h => by simp [eqA] at h
 | .yld _,_,h => by simp [eqA] at h
 | .iface _ _,_,h => by simp [eqA] at h
theorem qg4:∀ (a b:List AV),eqAs a b = true → a = b
 | [],b,h => by
  simp only [eqAs] at h
  split at h <;> first | rfl | cases h
 |x :: xs,b,h => by
  simp only [eqAs] at h
  split at h <;> try cases h
  split at h <;> try cases h
  rename_i e
  rw [qyc _ _ e,qg4 _ _ h]
end
abbrev Memo :=List (FuncId × List AV × AV)
def qrp:Memo → FuncId → List AV → Option AV
 | [],_,_ => none
 |e :: r,f,args => match Nat.beq e.1 f with
  |true => match eqAs e.2.1 args with
   |true => some e.2.2
   |false => qrp r f args
  |false => qrp r f args
def MOK (P:Program) (M:Memo):Prop :=∀ e,e ∈ M → Pure P e.1 e.2.1 e.2.2
theorem qlg {P:Program} {f:FuncId} {args:List AV} {v:AV}:∀ (M:Memo),MOK P M → qrp M f args = some v → Pure P f args v
 | [],_,h => by simp [qrp] at h
 |e :: r,hm,h => by
  simp only [qrp] at h
  have hr:MOK P r :=fun x hx => hm x (List.mem_cons_of_mem _ hx)
  split at h
  ·rename_i e1
   split at h
   ·rename_i e2
    cases h
    have :=hm e (by simp)
    rw [Nat.eq_of_beq_eq_true e1,qg4 _ _ e2] at this
    exact this
   ·exact qlg r hr h
  ·exact qlg r hr h
end
end Go.Abs

/-! The evaluator: operations, regions, code, functions. -/
namespace Go.Abs
open Go
noncomputable section
structure Env where
 P:Program
 T:Tr TypeInfo
 F:Tr Func
 X:XT
 y:Bool
 pu:FuncId → Bool
 M:Memo
 pc:FuncId → List AV → (AV → Prop) → Prop → Prop
structure Env.Ok (E:Env):Prop where
 T:TOK E.P E.T
 F:FOK E.P E.F
 X:XOK E.P E.X
 mx:E.P.follows .mixedOrders = true
 M:MOK E.P E.M
 pc:∀ f args Kp R,E.pc f args Kp R → (∃ v,Kp v ∧ Pure E.P f args v) ∨ R
structure AS where
 tm:Tr AV
 df:List ADf
 pm:APm
 rd:Bool
 h:Tr AObj
 n:Nat
 b:Nat
 wr:List Nat
abbrev KE :=AEx → AS → Prop
structure Sub where
 code:Code → AS → KE → Prop
 fn:FuncId → CallKind → List AV → APm → Tr AObj → Nat → (AEnd → APm → Tr AObj → Nat → List Nat → Prop) → Prop
 call:FuncId → List AV → Tr AObj → Nat → (AEnd → Tr AObj → Nat → List Nat → Prop) → Prop
 loop:Code → (AS → KE → Prop) → AS → KE → Prop
 drawn:Array Oper → Nat → List Rec → Prop → Prop
def logW (b:Nat) (is:List Nat):List Nat → (List Nat → Prop) → Prop :=
 @List.rec Nat (fun _ => List Nat → (List Nat → Prop) → Prop) (fun wr K => K wr)
  (fun i _ ih wr K => @Bool.rec (fun _ => Prop) (ih wr K) (@Bool.rec (fun _ => Prop) (ih (i :: wr) K) (ih wr K) (wr.contains i)) (Nat.blt i b)) is
theorem qc6 {b:Nat}:∀ (is wr:List Nat) (K:List Nat → Prop),logW b is wr K → ∃ wr',K wr' ∧ (∀ x,x ∈ wr → x ∈ wr') ∧ ∀ x,x ∈ is → x < b → x ∈ wr'
 | [],wr,K,h => ⟨wr,h,fun _ h => h,fun _ h => by cases h⟩
 |i :: is,wr,K,h => by
  have h:@Bool.rec (fun _ => Prop) (logW b is wr K) (@Bool.rec (fun _ => Prop) (logW b is (i :: wr) K) (logW b is wr K) (wr.contains i)) (Nat.blt i b) :=h
  cases hb:Nat.blt i b with
  |false =>
   rw [hb] at h
   obtain ⟨wr',h1,h2,h3⟩ :=qc6 is wr K h
   refine ⟨wr',h1,h2,fun x hx hlt => ?_⟩
   rcases List.mem_cons.1 hx with e | hx
   ·subst e
    have:Nat.blt x b = true :=by rw [Nat.blt_eq];exact hlt
    rw [this] at hb;cases hb
   ·exact h3 x hx hlt
  |true =>
   rw [hb] at h
   cases hc:wr.contains i with
   |true =>
    rw [hc] at h
    obtain ⟨wr',h1,h2,h3⟩ :=qc6 is wr K h
    refine ⟨wr',h1,h2,fun x hx hlt => ?_⟩
    rcases List.mem_cons.1 hx with e | hx
    ·subst e;exact h2 _ (by simpa using hc)
    ·exact h3 x hx hlt
   |false =>
    rw [hc] at h
    obtain ⟨wr',h1,h2,h3⟩ :=qc6 is (i :: wr) K h
    refine ⟨wr',h1,fun x hx => h2 x (List.mem_cons_of_mem _ hx),fun x hx hlt => ?_⟩
    rcases List.mem_cons.1 hx with e | hx
    ·subst e;exact h2 _ (by simp)
    ·exact h3 x hx hlt
structure Kept (b:Nat) (h:Tr AObj) (wr:List Nat) (h':Tr AObj) (wr':List Nat):Prop where
 sub:∀ x,x ∈ wr → x ∈ wr'
 same:∀ x,x < b → x ∉ wr' → hv h' x = hv h x
theorem Kept.refl (b:Nat) (h:Tr AObj) (wr:List Nat):Kept b h wr h wr :=⟨fun _ h => h,fun _ _ _ => rfl⟩
theorem Kept.trans {b:Nat} {h1 h2 h3:Tr AObj} {w1 w2 w3:List Nat} (a:Kept b h1 w1 h2 w2) (c:Kept b h2 w2 h3 w3):Kept b h1 w1 h3 w3 :=
 ⟨fun x hx => c.sub x (a.sub x hx),fun x hx hn => (c.same x hx hn).trans (a.same x hx fun h => hn (c.sub x h))⟩
theorem Kept.put {b:Nat} {h h':Tr AObj} {wr wr':List Nat} {i:Nat} {x:AObj} (hh:hv h' = upd (hv h) i x) (hs:∀ x,x ∈ wr → x ∈ wr') (hi:i < b → i ∈ wr'):Kept b h wr h' wr' :=
 ⟨hs,fun k hk hn => by rw [hh,qsd];intro e;subst e;exact hn (hi hk)⟩
theorem qne:∀ (W:WL) (o:Nat → AObj) (k:Nat),k ∉ idxs W → appO o W k = o k
 | [],_,_,_ => rfl
 |(i,x,r) :: W,o,k,h => by
  simp only [idxs,List.map_cons,List.mem_cons,not_or] at h
  rw [appO,qne W _ k h.2,qsd _ _ h.1]
theorem Kept.app {b:Nat} {h h':Tr AObj} {wr wr':List Nat} {W:WL} (hh:hv h' = appO (hv h) W) (hs:∀ x,x ∈ wr → x ∈ wr') (hi:∀ x,x ∈ idxs W → x < b → x ∈ wr'):Kept b h wr h' wr' :=
 ⟨hs,fun k hk hn => by rw [hh,qne];exact fun h => hn (hi k h hk)⟩
structure Aft (s s':AS):Prop where
 he:HEnd s'.h s'.n
 b:s'.b = s.b
 kept:Kept s.b s.h s.wr s'.h s'.wr
theorem Aft.trans {s1 s2 s3:AS} (a:Aft s1 s2) (c:Aft s2 s3):Aft s1 s3 :=⟨c.he,c.b.trans a.b,a.kept.trans (by have :=c.kept;rwa [a.b] at this)⟩
def qdg (tm:Tr AV) (d:Option Tmp) (v:AV) (K:Tr AV → Prop):Prop :=@Option.rec Tmp (fun _ => Prop) (K tm) (fun d => setA (pathOf d) tm v K) d
theorem qb8 {tm:Tr AV} {d:Option Tmp} {v:AV} {K:Tr AV → Prop} (h:qdg tm d v K):∃ tm',K tm' ∧ SetD tm d v tm' :=by
 cases d with
 |none => exact ⟨tm,h,rfl⟩
 |some d =>
  obtain ⟨t',h1,h2,h3⟩ :=Tr.setK_spec tm d K h
  exact ⟨t',h1,h2,h3⟩
def qnw:List (Nat × AV) → Tr AV → (Tr AV → Prop) → Prop
 | [],tm,K => K tm
 |(p,a) :: r,tm,K => tm.setK p a fun tm => qnw r tm K
theorem qjl:∀ (l:List (Nat × AV)) (tm:Tr AV) (K:Tr AV → Prop),qnw l tm K → ∃ tm',K tm' ∧ qka tm l tm'
 | [],tm,K,h => ⟨tm,h,rfl⟩
 |(p,a) :: r,tm,K,h => by
  obtain ⟨t1,h1,h2,h3⟩ :=Tr.setK_spec tm p _ h
  obtain ⟨t',h4,h5⟩ :=qjl r t1 K h1
  exact ⟨t',h4,t1,⟨h2,h3⟩,h5⟩
def q1j (o:Op):AV → (AV → Prop) → Prop :=
 @Op.rec (fun _ => AV → (AV → Prop) → Prop) (fun _ => fcH0) (fun _ => fcH0) (fun _ _ _ => fcV0) (fun _ => fcV0) (fun _ _ => fcV0) (fun _ _ => fcV0) (fun _ _ _ => fcV0) (fun _ _ _ _ => fcV0)
  (fun _ _ => fcM0) (fun _ _ _ => fcV0) (fun _ => fcV0) (fun _ => fcV0) (fun _ => fcV0) (fun _ _ _ _ _ => fcV0) (fun _ _ _ => fcV0) (fun _ _ _ => fcV0) (fun _ _ => fcV0) (fun _ _ => fcV0) (fun _ _ _ => fcV0)
  (fun _ _ => fcV0) (fun _ _ => fcV0) (fun _ _ _ => fcV0) (fun _ _ _ _ _ => fcV0) (fun _ _ _ => fcV0) (fun _ _ _ => fcV0) (fun _ _ _ => fcV0) (fun _ _ _ => fcV0) (fun _ _ _ _ => fcV0) (fun _ _ _ _ => fcV0) (fun _ _ _ => fcV0) (fun _ _ _ _ => fcV0)
  (fun _ _ => fcV0) (fun _ _ => fcV0) (fun _ => fcV0) (fun _ _ _ _ => fcV0) (fun _ _ => fcH0) (fun _ => fcV0) (fun _ => fcV0) (fun _ => fcV0) (fun _ => fcV0) (fun _ _ => fcV0) (fun _ _ _ => fcV0) (fun _ _ => fcV0) o
theorem qw4 {o:Op} {v:AV} {K:AV → Prop} (h:q1j o v K):K v :=by
 cases o <;> first
  |exact quy h
  |exact qfb h
  |exact qls h
def fcOp (y:Bool) (o:Op) (v:AV) (K:AV → Prop):Prop :=@Bool.rec (fun _ => Prop) (q1j o v K) (fcM0 v K) y
theorem qu0 {y:Bool} {o:Op} {v:AV} {K:AV → Prop} (h:fcOp y o v K):K v :=by
 cases y with
 |true => exact qls h
 |false => exact qw4 h
def qp8 (h:Tr AObj) (n l:Nat) (from_ to:LoopState) (K:Tr AObj → Nat → Prop):Prop :=
 getO h l fun x => match x with
  | .loop st fn tm nt params assign body dfr => match decide (st = from_) with
   |true => putO h n l (.loop to fn tm nt params assign body dfr) K
   |false => False
  | _ => False
theorem qit {h:Tr AObj} {n l:Nat} {a b:LoopState} {K:Tr AObj → Nat → Prop} (hk:qp8 h n l a b K) (he:HEnd h n) :
  ∃ fn tm nt params assign body dfr h' n',hv h l = .loop a fn tm nt params assign body dfr ∧ K h' n' ∧ hv h' = upd (hv h) l (.loop b fn tm nt params assign body dfr) ∧ HEnd h' n' :=by
 have h1 :=qiy hk
 split at h1
 case h_2 => exact h1.elim
 rename_i st fn tm nt params assign body dfr ho
 split at h1
 case h_2 => exact h1.elim
 rename_i hd
 have hd:st = a :=of_decide_eq_true hd
 subst hd
 obtain ⟨h',n',h2,h3,h4,_⟩ :=qeo h1 he
 exact ⟨fn,tm,nt,params,assign,body,dfr,h',n',ho,h2,h3,h4⟩
def qou (S:Sub) (s:AS) (d:Option Tmp) (l:Nat) (args:List AV) (K:KE):Prop :=
 match s with
 | ⟨tm0,df,pm,rd,h,n,b,wr⟩ => getO h l fun x => match x with
  | .loop st _ tm _ params assign body _ => match decide (st = .ready) with
   |true => logW b [l] wr fun wr => qnw (params.zip args) tm fun tm => S.code assign ⟨tm,[],.no,true,h,n,b,wr⟩ fun e s1 => match e with
    | .normal => match s1 with
     | ⟨tm1,df1,pm1,rd1,h1,n1,b1,wr1⟩ => qp8 h1 n1 l .ready .busy fun h n => S.code body ⟨tm1,df1,pm1,rd1,h,n,b1,wr1⟩ fun e s2 => match e with
      | .normal => match s2 with
       | ⟨_,_,_,_,h2,n2,b2,wr2⟩ => qp8 h2 n2 l .busy .ready fun h n => qdg tm0 d (.bool true) fun tm => K .normal ⟨tm,df,pm,rd,h,n,b2,wr2⟩
      | _ => False
    | _ => False
   |false => False
  | _ => False
def qxf (E:Env) (S:Sub) (f:FuncId) (args:List AV) (h:Tr AObj) (n:Nat) (Kp:AV → Prop) (Kc:AEnd → Tr AObj → Nat → List Nat → Prop):Prop :=E.pc f args Kp <|
 match qrp E.M f (wkl args) with
 |some v => Kp v
 |none => match E.pu f with
  |true => match norefs (wkl args) with
   |true => fcL E.y fcH0 (wkl args) fun args => S.call f args .nil 0 fun e _ _ _ => match e with
    | .ret v => fcV E.y (wk v) fun v => match noref v with
     |true => Kp v
     |false => False
    | .panic _ => False
   |false => False
  |false => S.call f args h n Kc
abbrev KR :=Env → Sub → Oper → Tr AV → List ADf → APm → Bool → Tr AObj → Nat → Nat → List Nat → WL → Tr AObj → Nat → KE → Prop
def q0z (v:AV):KR :=fun E _ o tm df pm rd _ _ b wr W h n K => logW b (idxs W) wr fun wr => fcOp E.y o.op v fun v => qdg tm o.dst v fun tm => K .normal ⟨tm,df,pm,rd,h,n,b,wr⟩
def qyt:KR :=fun _ _ o tm df pm rd _ _ b wr W h n K => logW b (idxs W) wr fun wr => qdg tm o.dst (.tup []) fun tm => K .normal ⟨tm,df,pm,rd,h,n,b,wr⟩
def qyv (f:FuncId) (args:List AV):KR :=fun E S o tm df pm rd h0 n0 b wr _ _ _ K => match Nat.ble b n0 with
 |false => False
 |true => qxf E S f args h0 n0 (fun v => qdg tm o.dst v fun tm => K .normal ⟨tm,df,pm,rd,h0,n0,b,wr⟩) fun e h n cw => logW b cw wr fun wr => match e with
  | .ret v => qdg tm o.dst v fun tm => K .normal ⟨tm,df,pm,rd,h,n,b,wr⟩
  | .panic l => K (.panic l) ⟨tm,df,pm,rd,h,n,b,wr⟩
def q0y (l:Nat) (args:List AV):KR :=fun _ S o tm df pm rd h0 n0 b wr _ _ _ K => qou S ⟨tm,df,pm,rd,h0,n0,b,wr⟩ o.dst l args K
def qyu (f:FuncId) (args:List AV):KR :=fun _ _ o tm df pm rd h0 n0 b wr _ _ _ K => match rd with
 |false => qdg tm o.dst (.tup []) fun tm => K .normal ⟨tm,.call f args :: df,pm,false,h0,n0,b,wr⟩
 |true => False
def qrb:KR :=fun _ _ o tm df pm rd h0 n0 b wr _ _ _ K => match rd with
 |true => False
 |false => match pm with
  | .no => False
  | .ret => qdg tm o.dst .nili fun tm => K .normal ⟨tm,df,.ret,false,h0,n0,b,wr⟩
  | .pan l => match l with
   | [] => False
   |(v,bb) :: l => match bb with
    |true => False
    |false => qdg tm o.dst v fun tm => K .normal ⟨tm,df,.pan ((v,true) :: l),false,h0,n0,b,wr⟩
def qv9 (v:AV):KR :=fun _ _ _ tm df pm rd h0 n0 b wr _ _ _ K => K (.panic [(v,false)]) ⟨tm,df,pm,rd,h0,n0,b,wr⟩
def q1q (r:PRes):KR :=@PRes.rec (fun _ => KR) (fun v => q0z v) qyt (fun f args => qyv f args) (fun l args => q0y l args) (fun f args => qyu f args) qrb (fun v => qv9 v) r
abbrev KO :=Env → Sub → Oper → KE → Tr AV → List ADf → APm → Bool → Tr AObj → Nat → Nat → List Nat → Prop
def qhb:KO :=fun _ _ o K tm df pm rd h n b wr => qdg tm o.dst (.tup []) fun tm => K .normal ⟨tm,df,pm,rd,h,n,b,wr⟩
def qk8:KO :=fun E S o K tm df pm rd h n b wr => runP (pOp E.P E.T E.F E.X (aev tm) o) E.y n h n fun r _ W h' n' => q1q r E S o tm df pm rd h n b wr W h' n' K
def opNo:KO :=fun _ _ _ _ _ _ _ _ _ _ _ _ => False
def opG (g:Option Bool):KO :=@Option.rec Bool (fun _ => KO) opNo (fun g => @Bool.rec (fun _ => KO) qhb qk8 g) g
def exOp (E:Env) (S:Sub) (ops:Array Oper) (o:Oper) (s:AS) (K:KE):Prop :=
 @AS.rec (fun _ => Prop) (fun tm df pm rd h n b wr => opG (qbi ops tm o) E S o K tm df pm rd h n b wr) s
def AS.st (s:AS) (H:AH):St :={ tm :=s.tm,df :=s.df,pm :=s.pm,rd :=s.rd,H :=H }
def SemR (P:Program) (its:List Item) (s:AS) (e:AEx) (s':AS):Prop :=
 ∀ (B:Nat) (H:AH),H.o = hv s.h → ∃ H':AH,H'.o = hv s'.h ∧ SemT P B its (s.st H) e (s'.st H')
def OpR (P:Program) (ops:Array Oper) (i:Nat) (s:AS) (e:AEx) (s':AS):Prop :=
 ∀ (B:Nat) (H:AH),H.o = hv s.h → ∃ H':AH,H'.o = hv s'.h ∧ OpS P B ops i (s.st H) e (s'.st H')
def qfd (ops:Array Oper) (n:Nat) (rs:List Rec):Bool :=
 match qvv ops with
 |none => false
 |some U => quj n rs U
structure Sub.Ok (P:Program) (S:Sub):Prop where
 code:∀ c s K,S.code c s K → HEnd s.h s.n → ∃ e s',K e s' ∧ Aft s s' ∧ SemR P [.code c] s e s'
 fn:∀ f κ args pm h n K,S.fn f κ args pm h n K → HEnd h n → ∃ e pm' h' n' cw,K e pm' h' n' cw ∧ HEnd h' n' ∧ (∀ x,x < n → x ∉ cw → hv h' x = hv h x) ∧ ∀ (B:Nat) (H:AH),H.o = hv h → ∃ H':AH,H'.o = hv h' ∧ FSem P B f κ args pm H e pm' H'
 call:∀ f args h n K,S.call f args h n K → HEnd h n → ∃ e h' n' cw,K e h' n' cw ∧ HEnd h' n' ∧ (∀ x,x < n → x ∉ cw → hv h' x = hv h x) ∧ ∀ (B:Nat) (H:AH),H.o = hv h → ∃ H':AH,H'.o = hv h' ∧ CSem P B f args H e H'
 loop:∀ c f,(∀ s K,f s K → HEnd s.h s.n → ∃ e s',K e s' ∧ Aft s s' ∧ SemR P [.code c] s e s') → ∀ s K,S.loop c f s K → HEnd s.h s.n →
  ∃ e s',K e s' ∧ Aft s s' ∧ ∀ (B:Nat) (H:AH),H.o = hv s.h → ∃ H':AH,H'.o = hv s'.h ∧ SemL P B c (s.st H) e (s'.st H')
 drawn:∀ ops n rs Q,S.drawn ops n rs Q → qfd ops n rs = true ∧ Q
section
variable {E:Env} {S:Sub}
theorem qmy:hv .nil = fun _ => .hole :=by funext i;simp [hv]
theorem qey:HEnd .nil 0 :=fun i _ => Tr.get_nil i
theorem qqr (hE:E.Ok) (hS:S.Ok E.P) {f:FuncId} {args:List AV} {h:Tr AObj} {n:Nat} {Kp:AV → Prop} {Kc:AEnd → Tr AObj → Nat → List Nat → Prop} (hk:qxf E S f args h n Kp Kc) (he:HEnd h n) :
  (∃ v,Kp v ∧ Pure E.P f args v) ∨ (∃ e h' n' cw,Kc e h' n' cw ∧ HEnd h' n' ∧ (∀ x,x < n → x ∉ cw → hv h' x = hv h x) ∧ ∀ (B:Nat) (H:AH),H.o = hv h → ∃ H':AH,H'.o = hv h' ∧ CSem E.P B f args H e H') :=by
 rcases hE.pc _ _ _ _ hk with hk | hk
 ·exact .inl hk
 split at hk
 ·rename_i v hv
  exact .inl ⟨v,hk,(qlg _ hE.M hv).ofWk⟩
 ·split at hk
  ·split at hk
   ·rename_i hn
    obtain ⟨e,h',n',cw,k1,k2,_,k3⟩ :=hS.call _ _ _ _ _ (qz6 hk) qey
    cases e with
    |panic l => exact k1.elim
    |ret v =>
     have k1 :=qx7 k1
     split at k1
     ·rename_i hv
      refine .inl ⟨_,k1,Pure.ofWk (qkv (fun B => ?_) (qcj _ hn) (Wk.wk v) (qhy _ hv))⟩
      obtain ⟨H',k4,k5⟩ :=k3 B AH.nil qmy.symm
      exact ⟨H',k5⟩
     ·exact k1.elim
   ·exact hk.elim
  ·exact .inr (hS.call _ _ _ _ _ hk he)
theorem qrw (hE:E.Ok) (hS:S.Ok E.P) {ops:Array Oper} {i:Nat} {o:Oper} (ho:ops[i]? = some o) {s:AS} {l:Nat} {args:List AV} {K:KE} (hk:qou S s o.dst l args K) (he:HEnd s.h s.n)
  (hg:qbi ops s.tm o = some true) {R:List Nat} {W:WL} (hev:EvF s.n (pOp E.P E.T E.F E.X (aev s.tm) o) (hv s.h) (.yld l args) R W) :
  ∃ e s',K e s' ∧ Aft s s' ∧ OpR E.P ops i s e s' :=by
 obtain ⟨tmq,dfq,pmq,rdq,hq,nq,bq,wrq⟩ :=s
 simp only [qou] at hk
 simp only at he hg hev
 have h1 :=qiy hk
 split at h1
 case h_2 => exact h1.elim
 rename_i st fn tm nt params assign body dfr hl
 split at h1
 case h_2 => exact h1.elim
 rename_i hd
 have hd:st = .ready :=of_decide_eq_true hd
 subst hd
 obtain ⟨wr,h1,w1,w2⟩ :=qc6 _ _ _ h1
 have hlw:l < bq → l ∈ wr :=w2 l (by simp)
 obtain ⟨tm0,h2,h3⟩ :=qjl _ _ _ h1
 obtain ⟨e1,s1,h4,h5,h6⟩ :=hS.code _ _ _ h2 he
 cases e1 with
 |normal =>
  obtain ⟨tm1',df1',pm1',rd1',hq1,nq1,bq1,wrq1⟩ :=s1
  obtain ⟨fn1,tm1,nt1,ps1,as1,bd1,df1,h7,n7,q1,q2,q3,q4⟩ :=qit h4 h5.he
  obtain ⟨e2,s2,h8,h9,h10⟩ :=hS.code _ _ _ q2 q4
  cases e2 with
  |normal =>
   obtain ⟨tm2',df2',pm2',rd2',hq2,nq2,bq2,wrq2⟩ :=s2
   obtain ⟨fn2,tm2,nt2,ps2,as2,bd2,df2,h11,n11,r1,r2,r3,r4⟩ :=qit h8 h9.he
   obtain ⟨tm',r5,r6⟩ :=qb8 r2
   have b1:bq1 = bq :=h5.b
   have b2:bq2 = bq :=h9.b.trans b1
   subst b1
   subst b2
   have kp1:Kept bq2 hq wr hq1 wrq1 :=h5.kept
   have kp2:Kept bq2 hq1 wrq1 h7 wrq1 :=Kept.put q3 (fun _ h => h) fun hl => kp1.sub l (hlw hl)
   have kp3:Kept bq2 h7 wrq1 hq2 wrq2 :=h9.kept
   have kp4:Kept bq2 hq2 wrq2 h11 wrq2 :=Kept.put r3 (fun _ h => h) fun hl => kp3.sub l (kp1.sub l (hlw hl))
   have kp0:Kept bq2 hq wrq hq wr :=⟨w1,fun _ _ _ => rfl⟩
   refine ⟨_,_,r5,⟨r4,rfl,kp0.trans (kp1.trans (kp2.trans (kp3.trans kp4)))⟩,fun B H hH => ?_⟩
   obtain ⟨H1,k1,k2⟩ :=h6 B H hH
   obtain ⟨H2,k3,k4⟩ :=h10 B (H1.put l (.loop .busy fn1 tm1 nt1 ps1 as1 bd1 df1) 0) (by rw [q3,← k1];rfl)
   refine ⟨H2.put l (.loop .ready fn2 tm2 nt2 ps2 as2 bd2 df2) 0,by rw [r3,← k3];rfl,?_⟩
   exact OpS.yld (σ :=AS.st ⟨tmq,dfq,pmq,rdq,hq,nq,bq2,wrq⟩ H) (σ1 :=AS.st ⟨tm1',df1',pm1',rd1',hq1,nq1,bq2,wrq1⟩ H1) (σ2 :=AS.st ⟨tm2',df2',pm2',rd2',hq2,nq2,bq2,wrq2⟩ H2) hE.T hE.F hE.X ho hg (s :=nq)
    (by show H.o nq = _;rw [hH];exact he.hole (Nat.le_refl _)) (by show EvF _ _ H.o _ _ _;rw [hH];exact hev)
    (by show H.o l = _;rw [hH];exact hl) h3 k2 (by show H1.o l = _;rw [k1];exact q1) k4 (by show H2.o l = _;rw [k3];exact r1) r6
  | _ => exact h8.elim
 | _ => exact h4.elim
theorem q0a (hE:E.Ok) (hS:S.Ok E.P) {ops:Array Oper} {i:Nat} {o:Oper} (ho:ops[i]? = some o) {s:AS} {K:KE} (hk:exOp E S ops o s K) (he:HEnd s.h s.n) :
  ∃ e s',K e s' ∧ Aft s s' ∧ OpR E.P ops i s e s' :=by
 obtain ⟨tm,df,pm,rd,h,n,b,wr⟩ :=s
 simp only [exOp] at hk
 simp only at he
 cases hg:qbi ops tm o with
 |none => rw [hg] at hk;exact False.elim hk
 |some g =>
 rw [hg] at hk
 cases g
 ·have hk:qdg tm o.dst (.tup []) (fun tm => K .normal ⟨tm,df,pm,rd,h,n,b,wr⟩) :=hk
  obtain ⟨tm',h1,h2⟩ :=qb8 hk
  exact ⟨_,_,h1,⟨he,rfl,Kept.refl _ _ _⟩,fun B H hH => ⟨H,hH,OpS.skip (σ :=AS.st ⟨tm,df,pm,rd,h,n,b,wr⟩ H) ho hg h2⟩⟩
 ·have hk:runP (pOp E.P E.T E.F E.X (aev tm) o) E.y n h n (fun r _ W h' n' => q1q r E S o tm df pm rd h n b wr W h' n' K) :=hk
  obtain ⟨r,R,W,h',n',hev,hk1,hh,he',_⟩ :=qdr _ _ _ _ hk he
  clear hk
  have hk :=hk1
  clear hk1
  have hole:∀ H:AH,H.o = hv h → H.o n = .hole :=fun H hH => by rw [hH];exact he.hole (Nat.le_refl _)
  have hev':∀ H:AH,H.o = hv h → EvF n (pOp E.P E.T E.F E.X (aev tm) o) H.o r R W :=fun H hH => by rw [hH];exact hev
  have happ:∀ H:AH,H.o = hv h → (H.app W).o = hv h' :=fun H hH => by rw [qly,hH,hh]
  cases r with
  |val v =>
   have hk:logW b (idxs W) wr (fun wr => fcOp E.y o.op v fun v => qdg tm o.dst v fun tm => K .normal ⟨tm,df,pm,rd,h',n',b,wr⟩) :=hk
   obtain ⟨wr',hk,w1,w2⟩ :=qc6 _ _ _ hk
   obtain ⟨tm',h1,h2⟩ :=qb8 (qu0 hk)
   exact ⟨_,_,h1,⟨he',rfl,Kept.app hh w1 w2⟩,fun B H hH => ⟨H.app W,happ H hH,OpS.val (σ :=AS.st ⟨tm,df,pm,rd,h,n,b,wr⟩ H) hE.T hE.F hE.X ho hg (hole H hH) (hev' H hH) h2⟩⟩
  |skip =>
   have hk:logW b (idxs W) wr (fun wr => qdg tm o.dst (.tup []) fun tm => K .normal ⟨tm,df,pm,rd,h',n',b,wr⟩) :=hk
   obtain ⟨wr',hk,w1,w2⟩ :=qc6 _ _ _ hk
   obtain ⟨tm',h1,h2⟩ :=qb8 hk
   exact ⟨_,_,h1,⟨he',rfl,Kept.app hh w1 w2⟩,fun B H hH => ⟨H.app W,happ H hH,OpS.none (σ :=AS.st ⟨tm,df,pm,rd,h,n,b,wr⟩ H) hE.T hE.F hE.X ho hg (hole H hH) (hev' H hH) h2⟩⟩
  |call f args =>
   have hk:(match Nat.ble b n with
    |false => False
    |true => qxf E S f args h n (fun v => qdg tm o.dst v fun tm => K .normal ⟨tm,df,pm,rd,h,n,b,wr⟩) fun e h n cw => logW b cw wr fun wr => match e with
     | .ret v => qdg tm o.dst v fun tm => K .normal ⟨tm,df,pm,rd,h,n,b,wr⟩
     | .panic l => K (.panic l) ⟨tm,df,pm,rd,h,n,b,wr⟩) :=hk
   split at hk
   case h_1 => exact hk.elim
   rename_i hbn
   have hbn :=Nat.le_of_ble_eq_true hbn
   rcases qqr hE hS hk he with ⟨v,k1,k2⟩ | ⟨e,h1,n1,cw,k1,k2,kf,k3⟩
   ·obtain ⟨tm',q1,q2⟩ :=qb8 k1
    exact ⟨_,_,q1,⟨he,rfl,Kept.refl _ _ _⟩,fun B H hH => ⟨H,hH,OpS.call (σ :=AS.st ⟨tm,df,pm,rd,h,n,b,wr⟩ H) hE.T hE.F hE.X ho hg (hole H hH) (hev' H hH) (k2.2 B H) q2⟩⟩
   ·obtain ⟨wr',k1,w1,w2⟩ :=qc6 _ _ _ k1
    have kpt:Kept b h wr h1 wr' :=⟨w1,fun x hx hn => kf x (by omega) fun h => hn (w2 x h hx)⟩
    cases e with
    |ret v =>
     obtain ⟨tm',q1,q2⟩ :=qb8 k1
     refine ⟨_,_,q1,⟨k2,rfl,kpt⟩,fun B H hH => ?_⟩
     obtain ⟨H',k4,k5⟩ :=k3 B H hH
     exact ⟨H',k4,OpS.call (σ :=AS.st ⟨tm,df,pm,rd,h,n,b,wr⟩ H) hE.T hE.F hE.X ho hg (hole H hH) (hev' H hH) k5 q2⟩
    |panic l =>
     refine ⟨_,_,k1,⟨k2,rfl,kpt⟩,fun B H hH => ?_⟩
     obtain ⟨H',k4,k5⟩ :=k3 B H hH
     exact ⟨H',k4,OpS.callPanic (σ :=AS.st ⟨tm,df,pm,rd,h,n,b,wr⟩ H) hE.T hE.F hE.X ho hg (hole H hH) (hev' H hH) k5⟩
  |yld l args => exact qrw hE hS ho (s :=⟨tm,df,pm,rd,h,n,b,wr⟩) hk he hg hev
  |defr f args =>
   cases rd with
   |false =>
    have hk:qdg tm o.dst (.tup []) (fun tm => K .normal ⟨tm,.call f args :: df,pm,false,h,n,b,wr⟩) :=hk
    obtain ⟨tm',h1,h2⟩ :=qb8 hk
    exact ⟨_,_,h1,⟨he,rfl,Kept.refl _ _ _⟩,fun B H hH => ⟨H,hH,OpS.defr (B :=B) (σ :=AS.st ⟨tm,df,pm,false,h,n,b,wr⟩ H) hE.T hE.F hE.X ho hg (hole H hH) rfl (hev' H hH) h2⟩⟩
   |true => exact False.elim hk
  |recover =>
   cases rd with
   |true => exact False.elim hk
   |false =>
    cases pm with
    |no => exact False.elim hk
    |ret =>
     have hk:qdg tm o.dst .nili (fun tm => K .normal ⟨tm,df,.ret,false,h,n,b,wr⟩) :=hk
     obtain ⟨tm',h1,h2⟩ :=qb8 hk
     exact ⟨_,_,h1,⟨he,rfl,Kept.refl _ _ _⟩,fun B H hH => ⟨H,hH,OpS.recover_nil (B :=B) (σ :=AS.st ⟨tm,df,.ret,false,h,n,b,wr⟩ H) hE.T hE.F hE.X ho hg (hole H hH) (hev' H hH) rfl rfl h2⟩⟩
    |pan l =>
     cases l with
     |nil => exact False.elim hk
     |cons p l =>
      obtain ⟨v,bb⟩ :=p
      cases bb with
      |true => exact False.elim hk
      |false =>
       have hk:qdg tm o.dst v (fun tm => K .normal ⟨tm,df,.pan ((v,true) :: l),false,h,n,b,wr⟩) :=hk
       obtain ⟨tm',h1,h2⟩ :=qb8 hk
       exact ⟨_,_,h1,⟨he,rfl,Kept.refl _ _ _⟩,fun B H hH => ⟨H,hH,OpS.recover_pan (B :=B) (σ :=AS.st ⟨tm,df,.pan ((v,false) :: l),false,h,n,b,wr⟩ H) hE.T hE.F hE.X ho hg (hole H hH) (hev' H hH) rfl rfl h2⟩⟩
  |panic v => exact ⟨_,_,hk,⟨he,rfl,Kept.refl _ _ _⟩,fun B H hH => ⟨H,hH,OpS.panic (σ :=AS.st ⟨tm,df,pm,rd,h,n,b,wr⟩ H) hE.T hE.F hE.X ho hg (hole H hH) (hev' H hH)⟩⟩
/-! ### Regions in order -/
def qz9 (os:List Oper):Env → Sub → Array Oper → AS → KE → Prop :=
 @List.rec Oper (fun _ => Env → Sub → Array Oper → AS → KE → Prop) (fun _ _ _ s K => K .normal s)
  (fun o _ ih E S ops s K => exOp E S ops o s fun e s' => @AEx.rec (fun _ => Prop) (ih E S ops s' K) (fun _ => False) False (fun l => K (.panic l) s') e) os
theorem qqj (hE:E.Ok) (hS:S.Ok E.P) {ops:Array Oper}:∀ (os:List Oper) (i:Nat) (s:AS) (K:KE),(∀ j o,os[j]? = some o → ops[i + j]? = some o) → qz9 os E S ops s K → HEnd s.h s.n →
  ∃ e s',K e s' ∧ Aft s s' ∧ SemR E.P [.inRegion ops (List.range' i os.length)] s e s'
 | [],i,s,K,_,hk,he => ⟨_,_,hk,⟨he,rfl,Kept.refl _ _ _⟩,fun B H hH => ⟨H,hH,SemT.region_nil⟩⟩
 |o :: os,i,s,K,ho,hk,he => by
  obtain ⟨e,s1,h1,h2,h3⟩ :=q0a hE hS (ho 0 o rfl) (K :=fun e s' => @AEx.rec (fun _ => Prop) (qz9 os E S ops s' K) (fun _ => False) False (fun l => K (.panic l) s') e) hk he
  cases e with
  |normal =>
   obtain ⟨e2,s2,h4,h5,h6⟩ :=qqj hE hS os (i + 1) s1 K (fun j o' hj => by
    have :=ho (j + 1) o' (by simpa using hj)
    rwa [show i + (j + 1) = i + 1 + j by omega] at this) h1 h2.he
   refine ⟨e2,s2,h4,h2.trans h5,fun B H hH => ?_⟩
   obtain ⟨H1,k1,k2⟩ :=h3 B H hH
   obtain ⟨H2,k3,k4⟩ :=h6 B H1 k1
   exact ⟨H2,k3,SemT.region_cons k2 k4⟩
  |panic l =>
   refine ⟨_,s1,h1,h2,fun B H hH => ?_⟩
   obtain ⟨H1,k1,k2⟩ :=h3 B H hH
   exact ⟨H1,k1,SemT.region_panic k2⟩
  | _ => exact False.elim h1
end
end
end Go.Abs

/-! The evaluator: drawn regions, code, functions. -/
namespace Go.Abs
open Go
noncomputable section
/-! ### Drawn regions -/
def qv6 (k:Nat):Tr AObj → Nat → (Tr AObj → Nat → Prop) → Prop :=
 @Nat.rec (fun _ => Tr AObj → Nat → (Tr AObj → Nat → Prop) → Prop) (fun h n K => K h n)
  (fun _ ih h n K => h.insK n .hole fun h => fcN false (Nat.succ n) fun n => ih h n K) k
theorem qpi:∀ (k:Nat) (h:Tr AObj) (n:Nat) (K:Tr AObj → Nat → Prop),qv6 k h n K → HEnd h n → ∃ h',K h' (n + k) ∧ hv h' = hv h ∧ HEnd h' (n + k)
 | 0,h,n,K,hk,he => ⟨h,hk,rfl,he⟩
 |k + 1,h,n,K,hk,he => by
  obtain ⟨h1,h2,h3⟩ :=Tr.insK_spec h n (fun h => fcN false (Nat.succ n) fun n => qv6 k h n K) hk
  have e1:hv h1 = hv h :=by
   funext j
   simp only [hv,h3]
   by_cases e:j = n
   ·subst e;simp [he j (Nat.le_refl _)]
   ·simp [e]
  obtain ⟨h',h4,h5,h6⟩ :=qpi k h1 (n + 1) K (qbj (K :=fun n => qv6 k h1 n K) h2) (fun i hi => by rw [h3,if_neg (by omega)];exact he i (by omega))
  rw [show n + 1 + k = n + (k + 1) by omega] at h4 h6
  exact ⟨h',h4,h5.trans e1,h6⟩
def qhr (h:Tr AObj) (W:WL) (s:Nat):Bool :=
 match W with
 | [] => true
 | _ :: _ => match h.get s with
  |none => true
  |some x => match x with
   | .hole => true
   | _ => false
theorem qib {h:Tr AObj} {W:WL} {s:Nat} (hs:qhr h W s = true) (hW:W ≠ []):hv h s = .hole :=by
 unfold qhr at hs
 split at hs
 ·exact absurd rfl hW
 ·unfold hv
  split at hs
  ·rename_i e;rw [e]
  ·rename_i e
   rw [e]
   split at hs
   ·rfl
   ·cases hs
abbrev KD :=List Rec → AS → Prop
def qxb (r:PRes):Env → Sub → Oper → Nat → Tr AV → List ADf → APm → Bool → Tr AObj → Nat → Nat → List Nat → List Nat → WL → Tr AObj → Nat → (Rec → AS → Prop) → Prop :=
 match r with
 | .val v => fun E _ o sl tm df pm rd h0 _ b wr R W h n N => match qhr h0 W sl with
  |true => logW b (idxs W) wr fun wr => fcOp E.y o.op v fun v => qdg tm o.dst v fun tm => N ⟨.val,v,R,W,[],0⟩ ⟨tm,df,pm,rd,h,n,b,wr⟩
  |false => False
 | .skip => fun _ _ o sl tm df pm rd h0 _ b wr R W h n N => match qhr h0 W sl with
  |true => logW b (idxs W) wr fun wr => qdg tm o.dst (.tup []) fun tm => N ⟨.skip,.tup [],R,W,[],0⟩ ⟨tm,df,pm,rd,h,n,b,wr⟩
  |false => False
 | .call f args => fun E S o _ tm df pm rd h0 n0 b wr R W _ _ N => match W with
  | [] => match Nat.ble b n0 with
   |false => False
   |true => qxf E S f args h0 n0 (fun v => qdg tm o.dst v fun tm => N ⟨.pure f args,v,R,[],[],0⟩ ⟨tm,df,pm,rd,h0,n0,b,wr⟩) fun e h n cw => logW b cw wr fun wr => match e with
    | .ret v => qdg tm o.dst v fun tm => N ⟨.call f args,v,R,[],cw,n0⟩ ⟨tm,df,pm,rd,h,n,b,wr⟩
    | .panic _ => False
  | _ :: _ => False
 | _ => fun _ _ _ _ _ _ _ _ _ _ _ _ _ _ _ _ _ => False
def exDr (os:List Oper):Env → Sub → Array Oper → Nat → Nat → List Rec → AS → KD → Prop :=
 @List.rec Oper (fun _ => Env → Sub → Array Oper → Nat → Nat → List Rec → AS → KD → Prop) (fun _ _ _ _ _ acc s K => K acc s)
  (fun o _ ih E S ops base i acc s K => @AS.rec (fun _ => Prop) (fun tm df pm rd h n b wr => @Option.rec Bool (fun _ => Prop) False
   (fun g => @Bool.rec (fun _ => Prop)
    (qdg tm o.dst (.tup []) fun tm => fcS (acc ++ [⟨.off,.tup [],[],[],[],0⟩]) fun acc => fcN false (Nat.succ i) fun i => ih E S ops base i acc ⟨tm,df,pm,rd,h,n,b,wr⟩ K)
    (fcN false (Nat.add base i) fun sl => runP (pOp E.P E.T E.F E.X (aev tm) o) E.y sl h n fun r R W h' n' => qxb r E S o sl tm df pm rd h n b wr R W h' n' fun rc s => fcS (acc ++ [rc]) fun acc => fcN false (Nat.succ i) fun i => ih E S ops base i acc s K) g) (qbi ops tm o)) s) os
section
variable {E:Env} {S:Sub}
theorem qu3 (hE:E.Ok) (hS:S.Ok E.P) {ops:Array Oper} {base:Nat}:∀ (os:List Oper) (i:Nat) (acc:List Rec) (s:AS) (K:KD),(∀ j o,os[j]? = some o → ops[i + j]? = some o) → exDr os E S ops base i acc s K → HEnd s.h s.n →
  ∃ rs s',K (acc ++ rs) s' ∧ Aft s s' ∧ rs.length = os.length ∧ ∀ (B:Nat) (H:AH),H.o = hv s.h → ∃ H':AH,H'.o = hv s'.h ∧ qjh E.P E.T E.F E.X B ops base (lab i rs) (s.st H) (s'.st H')
 | [],i,acc,s,K,_,hk,he => ⟨[],s,by rw [List.append_nil];exact hk,⟨he,rfl,Kept.refl _ _ _⟩,rfl,fun B H hH => ⟨H,hH,rfl⟩⟩
 |o :: os,i,acc,s,K,ho,hk,he => by
  have next:∀ (r:Rec) (s1:AS),fcS (acc ++ [r]) (fun acc => fcN false (Nat.succ i) fun i => exDr os E S ops base i acc s1 K) → Aft s s1 → (∀ (B:Nat) (H:AH),H.o = hv s.h → ∃ H1:AH,H1.o = hv s1.h ∧ RStep E.P E.T E.F E.X B ops base i r (s.st H) (s1.st H1)) →
    ∃ rs s',K (acc ++ rs) s' ∧ Aft s s' ∧ rs.length = (o :: os).length ∧ ∀ (B:Nat) (H:AH),H.o = hv s.h → ∃ H':AH,H'.o = hv s'.h ∧ qjh E.P E.T E.F E.X B ops base (lab i rs) (s.st H) (s'.st H') :=by
   intro r s1 h1 h2 h3
   have h4 :=qbj (K :=fun i => exDr os E S ops base i (acc ++ [r]) s1 K) (qx9 _ _ h1)
   obtain ⟨rs,s',q1,q2,q3,q4⟩ :=qu3 hE hS os (i + 1) (acc ++ [r]) s1 K (fun j o' hj => by
    have :=ho (j + 1) o' (by simpa using hj)
    rwa [show i + (j + 1) = i + 1 + j by omega] at this) h4 h2.he
   refine ⟨r :: rs,s',by simpa using q1,h2.trans q2,by simp [q3],fun B H hH => ?_⟩
   obtain ⟨H1,k1,k2⟩ :=h3 B H hH
   obtain ⟨H2,k3,k4⟩ :=q4 B H1 k1
   exact ⟨H2,k3,_,k2,k4⟩
  have hoi :=ho 0 o rfl
  rw [Nat.add_zero] at hoi
  obtain ⟨tm,df,pm,rd,h,n,b,wr⟩ :=s
  have hk:@Option.rec Bool (fun _ => Prop) False
   (fun g => @Bool.rec (fun _ => Prop)
    (qdg tm o.dst (.tup []) fun tm => fcS (acc ++ [⟨.off,.tup [],[],[],[],0⟩]) fun acc => fcN false (Nat.succ i) fun i => exDr os E S ops base i acc ⟨tm,df,pm,rd,h,n,b,wr⟩ K)
    (fcN false (Nat.add base i) fun sl => runP (pOp E.P E.T E.F E.X (aev tm) o) E.y sl h n fun r R W h' n' => qxb r E S o sl tm df pm rd h n b wr R W h' n' fun rc s => fcS (acc ++ [rc]) fun acc => fcN false (Nat.succ i) fun i => exDr os E S ops base i acc s K) g) (qbi ops tm o) :=hk
  simp only at he next
  cases hg:qbi ops tm o with
  |none => rw [hg] at hk;exact False.elim hk
  |some g =>
  rw [hg] at hk
  cases g
  ·have hk:qdg tm o.dst (.tup []) (fun tm => fcS (acc ++ [⟨.off,.tup [],[],[],[],0⟩]) fun acc => fcN false (Nat.succ i) fun i => exDr os E S ops base i acc ⟨tm,df,pm,rd,h,n,b,wr⟩ K) :=hk
   obtain ⟨tm',h1,h2⟩ :=qb8 hk
   exact next _ _ h1 ⟨he,rfl,Kept.refl _ _ _⟩ fun B H hH => ⟨H,hH,rfl,rfl,rfl,o,hoi,h2,hg,rfl,rfl,rfl⟩
  ·obtain ⟨r,R,W,h',n',hev,hk1,hh,he',_⟩ :=qdr _ _ _ _ (qbj (K :=fun sl => runP (pOp E.P E.T E.F E.X (aev tm) o) E.y sl h n fun r R W h' n' => qxb r E S o sl tm df pm rd h n b wr R W h' n' fun rc s => fcS (acc ++ [rc]) fun acc => fcN false (Nat.succ i) fun i => exDr os E S ops base i acc s K) hk) he
   clear hk
   have hk :=hk1
   clear hk1
   have hev':∀ H:AH,H.o = hv h → EvF (base + i) (pOp E.P E.T E.F E.X (aev tm) o) H.o r R W :=fun H hH => by rw [hH];exact hev
   have happ:∀ H:AH,H.o = hv h → (H.app W).o = hv h' :=fun H hH => by rw [qly,hH,hh]
   unfold qxb at hk
   split at hk
   ·rename_i v
    split at hk
    case h_2 => exact hk.elim
    rename_i hsf
    obtain ⟨wr',hk,w1,w2⟩ :=qc6 _ _ _ hk
    obtain ⟨tm',h1,h2⟩ :=qb8 (qu0 hk)
    exact next _ _ h1 ⟨he',rfl,Kept.app hh w1 w2⟩ fun B H hH => ⟨H.app W,happ H hH,rfl,rfl,rfl,o,hoi,h2,hg,fun hW => by show H.o _ = _;rw [hH];exact qib hsf hW,hev' H hH,rfl⟩
   ·split at hk
    case h_2 => exact hk.elim
    rename_i hsf
    obtain ⟨wr',hk,w1,w2⟩ :=qc6 _ _ _ hk
    obtain ⟨tm',h1,h2⟩ :=qb8 hk
    exact next _ _ h1 ⟨he',rfl,Kept.app hh w1 w2⟩ fun B H hH => ⟨H.app W,happ H hH,rfl,rfl,rfl,o,hoi,h2,hg,fun hW => by show H.o _ = _;rw [hH];exact qib hsf hW,hev' H hH,rfl,rfl⟩
   ·rename_i f args
    split at hk
    case h_2 => exact hk.elim
    split at hk
    case h_1 => exact hk.elim
    rename_i hbn
    have hbn :=Nat.le_of_ble_eq_true hbn
    rcases qqr hE hS hk he with ⟨v,k1,k2⟩ | ⟨e,h1,n1,cw,k1,k2,kf,k3⟩
    ·obtain ⟨tm',q1,q2⟩ :=qb8 k1
     exact next _ _ q1 ⟨he,rfl,Kept.refl _ _ _⟩ fun B H hH => ⟨H,hH,rfl,rfl,rfl,o,hoi,q2,hg,rfl,hev' H hH,k2,rfl⟩
    ·obtain ⟨wr',k1,w1,w2⟩ :=qc6 _ _ _ k1
     cases e with
     |ret v =>
      obtain ⟨tm',q1,q2⟩ :=qb8 k1
      refine next _ _ q1 ⟨k2,rfl,w1,fun x hx hn => kf x (by simp only at hx;omega) fun h => hn (w2 x h hx)⟩ fun B H hH => ?_
      obtain ⟨H',k4,k5⟩ :=k3 B H hH
      exact ⟨H',k4,rfl,rfl,rfl,o,hoi,q2,hg,rfl,hev' H hH,k5,fun x hx hn => by show H'.o x = H.o x;rw [k4,hH];exact kf x hx hn⟩
     |panic l => exact k1.elim
   ·exact hk.elim
theorem SemT.renum {P:Program} {B:Nat} {its:List Item} {σ σ':St} {e:AEx} {m:Nat} (h:SemT P B its { σ with H :={ σ.H with n :=m } } e σ') (hm:∀ i,m ≤ i → σ.H.o i = .hole):SemT P B its σ e σ' :=by
 intro g fr cs w k hr hmo ht hro k' hk
 have hr':FrRel g B w { σ with H :={ σ.H with n :=m } } fr cs :=
  ⟨{ wf :=hm,ge :=hr.h.ge,inj :=hr.h.inj,rel :=hr.h.rel,live :=hr.h.live,kp :=hr.h.kp,imz :=hr.h.imz,hB :=hr.h.hB },hr.tm,hr.df,hr.pm,hr.rd⟩
 obtain ⟨g',fr',cs',w',h1,h2,h3,h4,h5,h6,h7⟩ :=h g fr cs w k hr' hmo ht hro k' hk
 exact ⟨g',fr',cs',w',h1,⟨h2.rel,h2.ext,h2.below,h2.L,h2.frame,h2.own⟩,h3,h4,h5,h6,h7⟩
def qov (E:Env) (S:Sub) (ops:Array Oper) (s:AS) (K:KE):Prop :=
 @AS.rec (fun _ => Prop) (fun tm df pm rd h n b wr => qv6 ops.size h n fun h1 n1 => exDr ops.toList E S ops n 0 [] ⟨tm,df,pm,rd,h1,n1,b,wr⟩ fun rs s' =>
  S.drawn ops n rs (K .normal s')) s
theorem qrx (hE:E.Ok) (hS:S.Ok E.P) {ops:Array Oper} {id:Nat} {s:AS} {K:KE} (hk:qov E S ops s K) (he:HEnd s.h s.n) :
  ∃ e s',K e s' ∧ Aft s s' ∧ SemR E.P [.code (.region id ops true)] s e s' :=by
 obtain ⟨tm,df,pm,rd,h,n,b,wr⟩ :=s
 simp only [qov] at hk
 simp only at he
 obtain ⟨h0,h1,h2,h3⟩ :=qpi _ _ _ _ hk he
 obtain ⟨rs,s',q1,q2,q3,q4⟩ :=qu3 hE hS ops.toList 0 [] _ _ (fun j o hj => by simpa using hj) h1 h3
 obtain ⟨hd,q1⟩ :=hS.drawn _ _ _ _ q1
 unfold qfd at hd
 split at hd
 case h_1 => cases hd
 rename_i U hU
 have hi:quj n rs U = true :=by simpa using hd
 have kp:Kept b h wr h0 wr :=⟨fun _ h => h,fun x _ _ => by rw [h2]⟩
 refine ⟨_,s',q1,⟨q2.he,q2.b,kp.trans q2.kept⟩,fun B H hH => ?_⟩
 obtain ⟨H',k1,k2⟩ :=q4 B ({ ({ H with n :=n }:AH) with n :=n + ops.size }:AH) (by show H.o = _;rw [hH];exact h2.symm)
 refine ⟨H',k1,SemT.renum (m :=n) ?_ fun i hi => by show H.o i = _;rw [hH];exact he.hole hi⟩
 exact Sem.region_drawn (σ :=AS.st ⟨tm,df,pm,rd,h,n,b,wr⟩ { H with n :=n }) hE.T hE.F hE.X hE.mx hU (by simpa using q3) hi k2
/-! ### Code -/
def iter (k:Nat):(AS → KE → Prop) → AS → KE → Prop :=
 @Nat.rec (fun _ => (AS → KE → Prop) → AS → KE → Prop) (fun _ _ _ => False)
  (fun _ ih f s K => f s fun e s' => @AEx.rec (fun _ => Prop) (ih f s' K) (fun id => K (.exit id) s') (K .ret s') (fun l => K (.panic l) s') e) k
def exRF (E:Env) (S:Sub) (f:Operand) (params:List Tmp) (assign body:Code) (s:AS) (K:KE):Prop :=
 match s with
 | ⟨tm,df,pm,rd,h,n,b,wr⟩ => match rd with
  |true => False
  |false => match aev tm f with
   | .func fn first cap => match fn with
    | .func fid => match E.F.get fid with
     |some dfn => match dfn.body with
      |some _ => putO h n n (.dfr false) fun h1 n1 => match Nat.beq n1 (n + 1) with
       |false => False
       |true => putO h1 n1 n1 (.loop .ready 0 tm 0 params assign body n) fun h2 n2 => fcL E.y fcH0 (first ++ (.yld n1 :: cap)) fun args => match Nat.ble b n with
        |false => False
        |true => S.call fid args h2 n2 fun e h3 n3 cw => logW b cw wr fun wr => match e with
         | .ret _ => qp8 h3 n3 n1 .ready .exhausted fun h n' => K .normal ⟨tm,.mark n :: df,pm,false,h,n',b,wr⟩
         | .panic _ => False
      |none => False
     |none => False
    | _ => False
   | _ => False
def exC (c:Code):Env → Sub → AS → KE → Prop :=
 @Code.rec (fun _ => Env → Sub → AS → KE → Prop)
  (fun _ _ s K => K .normal s)
  (fun _ ops draw E S s K => @Bool.rec (fun _ => Prop) (qz9 ops.toList E S ops s K) (qov E S ops s K) draw)
  (fun _ _ iha ihb E S s K => iha E S s fun e s' => @AEx.rec (fun _ => Prop) (ihb E S s' K) (fun id => K (.exit id) s') (K .ret s') (fun l => K (.panic l) s') e)
  (fun c _ _ iha ihb E S s K => @AS.rec (fun _ => Prop) (fun tm df pm rd h n b wr => @Option.rec Bool (fun _ => Prop) False
   (fun x => @Bool.rec (fun _ => Prop) (ihb E S ⟨tm,df,pm,rd,h,n,b,wr⟩ K) (iha E S ⟨tm,df,pm,rd,h,n,b,wr⟩ K) x) (qqs (aev tm c))) s)
  (fun id _ ih E S s K => ih E S s fun e s' => @AEx.rec (fun _ => Prop) (K .normal s')
   (fun j => @Bool.rec (fun _ => Prop) (K (.exit j) s') (K .normal s') (Nat.beq j id)) (K .ret s') (fun l => K (.panic l) s') e)
  (fun body ih E S s K => S.loop body (ih E S) s K)
  (fun f params assign body _ _ E S s K => exRF E S f params.toList assign body s K)
  (fun id _ _ s K => K (.exit id) s)
  (fun _ ih E S s K => ih E S s K)
  (fun _ _ _ s K => K .normal s)
  (fun _ _ _ _ _ => False)
  (fun _ _ s K => K .ret s)
  (fun _ _ _ _ _ => False)
  c
theorem quf {P:Program} {c:Code} {f:AS → KE → Prop} (hf:∀ s K,f s K → HEnd s.h s.n → ∃ e s',K e s' ∧ Aft s s' ∧ SemR P [.code c] s e s'):∀ (k:Nat) (s:AS) (K:KE),iter k f s K → HEnd s.h s.n →
  ∃ e s',K e s' ∧ Aft s s' ∧ ∀ (B:Nat) (H:AH),H.o = hv s.h → ∃ H':AH,H'.o = hv s'.h ∧ SemL P B c (s.st H) e (s'.st H')
 | 0,_,_,hk,_ => False.elim hk
 |k + 1,s,K,hk,he => by
  obtain ⟨e,s1,h1,h2,h3⟩ :=hf s (fun e s' => @AEx.rec (fun _ => Prop) (iter k f s' K) (fun id => K (.exit id) s') (K .ret s') (fun l => K (.panic l) s') e) hk he
  by_cases hn:e = .normal
  ·subst hn
   obtain ⟨e2,s2,h4,h5,h6⟩ :=quf hf k s1 K h1 h2.he
   refine ⟨e2,s2,h4,h2.trans h5,fun B H hH => ?_⟩
   obtain ⟨H1,k1,k2⟩ :=h3 B H hH
   obtain ⟨H2,k3,k4⟩ :=h6 B H1 k1
   exact ⟨H2,k3,SemL.next k2 k4⟩
  ·refine ⟨e,s1,?_,h2,fun B H hH => ?_⟩
   ·cases e <;> first
     |exact absurd rfl hn
     |exact h1
   ·obtain ⟨H1,k1,k2⟩ :=h3 B H hH
    exact ⟨H1,k1,SemL.stop k2 hn⟩
theorem qz8 (hE:E.Ok) (hS:S.Ok E.P) {f:Operand} {params:Array Tmp} {assign body:Code} {s:AS} {K:KE} (hk:exRF E S f params.toList assign body s K) (he:HEnd s.h s.n) :
  ∃ e s',K e s' ∧ Aft s s' ∧ SemR E.P [.code (.rangeFunc f params assign body)] s e s' :=by
 obtain ⟨tm,df,pm,rd,h,n,b,wr⟩ :=s
 simp only [exRF] at hk
 simp only at he
 split at hk
 case h_1 => exact hk.elim
 split at hk
 case h_2 => exact hk.elim
 rename_i fn first cap hf
 split at hk
 case h_2 => exact hk.elim
 rename_i fid
 split at hk
 case h_2 => exact hk.elim
 rename_i dfn hd
 split at hk
 case h_2 => exact hk.elim
 rename_i c0 hb
 obtain ⟨h1,n1,hk,e1,he1,_⟩ :=qeo hk he
 split at hk
 case h_1 => exact hk.elim
 rename_i hbq
 have hbq:n1 = n + 1 :=Nat.eq_of_beq_eq_true hbq
 subst hbq
 obtain ⟨h2,n2,hk,e2,he2,hn2⟩ :=qeo hk he1
 have hk :=qz6 hk
 split at hk
 case h_1 => exact hk.elim
 rename_i hbn
 have hbn :=Nat.le_of_ble_eq_true hbn
 obtain ⟨e,h3,n3,cw,k1,k2,kf,k3⟩ :=hS.call _ _ _ _ _ hk he2
 obtain ⟨wr',k1,w1,w2⟩ :=qc6 _ _ _ k1
 cases e with
 |panic l => exact k1.elim
 |ret v =>
  obtain ⟨fn2,tm2,nt2,ps2,as2,bd2,df2,h4,n4,q1,q2,q3,q4⟩ :=qit k1 k2
  have kp1:Kept b h wr h1 wr :=Kept.put e1 (fun _ h => h) fun hl => by omega
  have kp2:Kept b h1 wr h2 wr :=Kept.put e2 (fun _ h => h) fun hl => by omega
  have kp3:Kept b h2 wr h3 wr' :=⟨w1,fun x hx hn => kf x (by omega) fun h => hn (w2 x h hx)⟩
  have kp4:Kept b h3 wr' h4 wr' :=Kept.put q3 (fun _ h => h) fun hl => by omega
  refine ⟨_,_,q2,⟨q4,rfl,kp1.trans (kp2.trans (kp3.trans kp4))⟩,fun B H hH => ?_⟩
  obtain ⟨H',k4,k5⟩ :=k3 B ((({ H with n :=n }:AH).put n (.dfr false) 0).put (n + 1) (.loop .ready 0 tm 0 params.toList assign body n) 0) (by rw [e2,e1,← hH];rfl)
  refine ⟨H'.put (n + 1) (.loop .exhausted fn2 tm2 nt2 ps2 as2 bd2 df2) 0,by rw [q3,← k4];rfl,SemT.renum (m :=n) ?_ fun i hi => by show H.o i = _;rw [hH];exact he.hole hi⟩
  exact Sem.rangeFunc (P :=E.P) (B :=B) (σ :=AS.st ⟨tm,df,pm,false,h,n,b,wr⟩ { H with n :=n }) hE.F (f :=f) (params :=params) (assign :=assign) (body :=body) hf rfl hd hb k5 (by show H'.o (n + 1) = _;rw [k4];exact q1) rfl
theorem qgo (hE:E.Ok) (hS:S.Ok E.P):∀ (c:Code) (s:AS) (K:KE),exC c E S s K → HEnd s.h s.n → ∃ e s',K e s' ∧ Aft s s' ∧ SemR E.P [.code c] s e s' :=by
 intro c
 induction c with
 |skip => exact fun s K hk he => ⟨_,_,hk,⟨he,rfl,Kept.refl _ _ _⟩,fun B H hH => ⟨H,hH,Sem.skip⟩⟩
 |label l => exact fun s K hk he => ⟨_,_,hk,⟨he,rfl,Kept.refl _ _ _⟩,fun B H hH => ⟨H,hH,Sem.label⟩⟩
 |region id ops draw =>
  intro s K hk he
  cases draw with
  |false =>
   obtain ⟨e,s',h1,h2,h3⟩ :=qqj hE hS ops.toList 0 s K (fun j o hj => by simpa using hj) hk he
   refine ⟨e,s',h1,h2,fun B H hH => ?_⟩
   obtain ⟨H',k1,k2⟩ :=h3 B H hH
   refine ⟨H',k1,Sem.region ?_⟩
   rw [List.range_eq_range']
   simpa using k2
  |true => exact qrx hE hS hk he
 |seq a b iha ihb =>
  intro s K hk he
  obtain ⟨e,s1,h1,h2,h3⟩ :=iha s (fun e s' => @AEx.rec (fun _ => Prop) (exC b E S s' K) (fun id => K (.exit id) s') (K .ret s') (fun l => K (.panic l) s') e) hk he
  by_cases hn:e = .normal
  ·subst hn
   obtain ⟨e2,s2,h4,h5,h6⟩ :=ihb s1 K h1 h2.he
   refine ⟨e2,s2,h4,h2.trans h5,fun B H hH => ?_⟩
   obtain ⟨H1,k1,k2⟩ :=h3 B H hH
   obtain ⟨H2,k3,k4⟩ :=h6 B H1 k1
   exact ⟨H2,k3,Sem.seq k2 k4⟩
  ·refine ⟨e,s1,?_,h2,fun B H hH => ?_⟩
   ·cases e <;> first
     |exact absurd rfl hn
     |exact h1
   ·obtain ⟨H1,k1,k2⟩ :=h3 B H hH
    exact ⟨H1,k1,Sem.seq_exit k2 hn⟩
 |cond c a b iha ihb =>
  intro s K hk he
  obtain ⟨tm,df,pm,rd,h,n,bb,wr⟩ :=s
  have hk:@Option.rec Bool (fun _ => Prop) False
   (fun x => @Bool.rec (fun _ => Prop) (exC b E S ⟨tm,df,pm,rd,h,n,bb,wr⟩ K) (exC a E S ⟨tm,df,pm,rd,h,n,bb,wr⟩ K) x) (qqs (aev tm c)) :=hk
  cases hb:qqs (aev tm c) with
  |none => rw [hb] at hk;exact False.elim hk
  |some x =>
  rw [hb] at hk
  have hx :=qvi hb
  cases x with
  |true =>
   obtain ⟨e,s',h1,h2,h3⟩ :=iha _ K hk he
   refine ⟨e,s',h1,h2,fun B H hH => ?_⟩
   obtain ⟨H',k1,k2⟩ :=h3 B H hH
   exact ⟨H',k1,Sem.cond (σ :=AS.st ⟨tm,df,pm,rd,h,n,bb,wr⟩ H) hx k2⟩
  |false =>
   obtain ⟨e,s',h1,h2,h3⟩ :=ihb _ K hk he
   refine ⟨e,s',h1,h2,fun B H hH => ?_⟩
   obtain ⟨H',k1,k2⟩ :=h3 B H hH
   exact ⟨H',k1,Sem.cond (σ :=AS.st ⟨tm,df,pm,rd,h,n,bb,wr⟩ H) hx k2⟩
 |block id c ih =>
  intro s K hk he
  obtain ⟨e,s1,h1,h2,h3⟩ :=ih s (fun e s' => @AEx.rec (fun _ => Prop) (K .normal s')
   (fun j => @Bool.rec (fun _ => Prop) (K (.exit j) s') (K .normal s') (Nat.beq j id)) (K .ret s') (fun l => K (.panic l) s') e) hk he
  cases e with
  |normal =>
   refine ⟨_,s1,h1,h2,fun B H hH => ?_⟩
   obtain ⟨H1,k1,k2⟩ :=h3 B H hH
   exact ⟨H1,k1,Sem.block_normal k2⟩
  |exit j =>
   have q1:@Bool.rec (fun _ => Prop) (K (.exit j) s1) (K .normal s1) (Nat.beq j id) :=h1
   cases hb:Nat.beq j id with
   |true =>
    rw [hb] at q1
    have q2:K .normal s1 :=q1
    have hb:j = id :=Nat.eq_of_beq_eq_true hb
    subst hb
    refine ⟨_,s1,q2,h2,fun B H hH => ?_⟩
    obtain ⟨H1,k1,k2⟩ :=h3 B H hH
    exact ⟨H1,k1,Sem.block_exit k2⟩
   |false =>
    rw [hb] at q1
    have q2:K (.exit j) s1 :=q1
    refine ⟨_,s1,q2,h2,fun B H hH => ?_⟩
    obtain ⟨H1,k1,k2⟩ :=h3 B H hH
    exact ⟨H1,k1,Sem.block_pass k2 (by simp) (by intro e;cases e;simp at hb)⟩
  |ret =>
   refine ⟨_,s1,h1,h2,fun B H hH => ?_⟩
   obtain ⟨H1,k1,k2⟩ :=h3 B H hH
   exact ⟨H1,k1,Sem.block_pass k2 (by simp) (by simp)⟩
  |panic l =>
   refine ⟨_,s1,h1,h2,fun B H hH => ?_⟩
   obtain ⟨H1,k1,k2⟩ :=h3 B H hH
   exact ⟨H1,k1,Sem.block_pass k2 (by simp) (by simp)⟩
 |scope c ih =>
  intro s K hk he
  obtain ⟨e,s1,h1,h2,h3⟩ :=ih s K hk he
  refine ⟨e,s1,h1,h2,fun B H hH => ?_⟩
  obtain ⟨H1,k1,k2⟩ :=h3 B H hH
  by_cases hn:e = .normal
  ·subst hn;exact ⟨H1,k1,Sem.scope_normal k2⟩
  ·exact ⟨H1,k1,Sem.scope_pass k2 hn⟩
 |loop c ih =>
  intro s K hk he
  obtain ⟨e,s1,h1,h2,h3⟩ :=hS.loop c _ ih s K hk he
  refine ⟨e,s1,h1,h2,fun B H hH => ?_⟩
  obtain ⟨H1,k1,k2⟩ :=h3 B H hH
  exact ⟨H1,k1,Sem.loop k2⟩
 |exit id => exact fun s K hk he => ⟨_,_,hk,⟨he,rfl,Kept.refl _ _ _⟩,fun B H hH => ⟨H,hH,Sem.exit⟩⟩
 |ret => exact fun s K hk he => ⟨_,_,hk,⟨he,rfl,Kept.refl _ _ _⟩,fun B H hH => ⟨H,hH,Sem.ret⟩⟩
 |rangeFunc f params assign body _ _ => exact fun s K hk he => qz8 hE hS hk he
 |goto l => exact fun s K hk he => False.elim hk
 |refuse w => exact fun s K hk he => False.elim hk
end
end
end Go.Abs

/-! The evaluator: functions, deferred calls; its soundness. -/
namespace Go.Abs
open Go
noncomputable section
def resK (rs:List ResultVar):Env → Tr AV → Tr AObj → Nat → (List AV → Prop) → Prop :=
 @List.rec ResultVar (fun _ => Env → Tr AV → Tr AObj → Nat → (List AV → Prop) → Prop) (fun _ _ _ _ K => K [])
  (fun r _ ih E tm h n K => match r with
   | .tmp t => fcH0 (aev tm (.tmp t)) fun v => ih E tm h n fun vs => K (v :: vs)
   | .cell a t => runP (qmi E.T t (aev tm (.tmp a))) E.y 0 h n fun r _ _ _ _ => match r with
    | .val v => fcM0 v fun v => ih E tm h n fun vs => K (v :: vs)
    | _ => False) rs
theorem qnx {E:Env} {tm:Tr AV} {h:Tr AObj} {n:Nat} (he:HEnd h n):∀ (rs:List ResultVar) (K:List AV → Prop),resK rs E tm h n K → ∃ vs,K vs ∧ ResV E.T tm (hv h) rs vs
 | [],K,hk => ⟨[],hk,rfl⟩
 | .tmp t :: rs,K,hk => by
  obtain ⟨vs,h1,h2⟩ :=qnx he rs _ (qfb (K :=fun v => resK rs E tm h n fun vs => K (v :: vs)) hk)
  exact ⟨_,h1,vs,rfl,h2⟩
 | .cell a t :: rs,K,hk => by
  obtain ⟨r,R,W,h',n',hev,hk1,_⟩ :=qdr _ _ _ (fun r _ _ _ _ => match r with
    | .val v => fcM0 v fun v => resK rs E tm h n fun vs => K (v :: vs)
    | _ => False) hk he
  split at hk1
  case h_2 => exact hk1.elim
  rename_i v
  obtain ⟨vs,h1,h2⟩ :=qnx he rs _ (qls (K :=fun v => resK rs E tm h n fun vs => K (v :: vs)) hk1)
  exact ⟨_,h1,v,vs,R,W,rfl,hev,h2⟩
abbrev KF :=AEnd → APm → Tr AObj → Nat → List Nat → Prop
def qtc (um:UMode) (pm:APm):Bool :=
 match um with
 | .ret => match pm with
  | .ret => true
  | _ => false
 | .pan _ => match pm with
  | .pan _ => true
  | _ => false
def qsf (e:AEnd) (pm1:APm):UMode :=
 match e with
 | .ret _ => qnu pm1
 | .panic l => qs1 l pm1
def unw (l:List ADf):Env → Sub → Func → UMode → AS → KF → Prop :=
 @List.rec ADf (fun _ => Env → Sub → Func → UMode → AS → KF → Prop)
  (fun E _ fn um s K => match s with
   | ⟨tm,_,pm,_,h,n,_,wr⟩ => match um with
    | .ret => resK fn.results.toList E tm h n fun vs => K (.ret (qfl vs)) pm h n wr
    | .pan l => K (.panic l) pm h n wr)
  (fun d df ih E S fn um s K => match s with
   | ⟨tm,_,pm,rd,h,n,b,wr⟩ => match d with
    | .call d args => match E.F.get d with
     |none => False
     |some dfn => match dfn.body with
      |none => False
      |some _ => match Nat.ble b n with
       |false => False
       |true => S.fn d .deferred args (pmOf um) h n fun e pm1 h n cw => logW b cw wr fun wr => match qtc um pm1 with
        |true => ih E S fn (qsf e pm1) ⟨tm,df,pm,rd,h,n,b,wr⟩ K
        |false => False
    | .mark o => getO h o fun x => match x with
     | .dfr taken => match taken with
      |false => logW b [o] wr fun wr => putO h n o (.dfr true) fun h n => ih E S fn um ⟨tm,df,pm,rd,h,n,b,wr⟩ K
      |true => False
     | _ => False) l
section
variable {E:Env} {S:Sub}
theorem qse (hE:E.Ok) (hS:S.Ok E.P) {f:FuncId} {fn:Func} (hf:E.F.get f = some fn):∀ (l:List ADf) (um:UMode) (s:AS) (K:KF),s.df = l → unw l E S fn um s K → HEnd s.h s.n →
  ∃ e pm' h' n' wr,K e pm' h' n' wr ∧ HEnd h' n' ∧ Kept s.b s.h s.wr h' wr ∧ ∀ (B:Nat) (H:AH),H.o = hv s.h → ∃ H':AH,H'.o = hv h' ∧ USem E.P B f um (s.st H) e pm' H'
 | [],um,s,K,hdf,hk,he => by
  have hpf :=(hE.F f fn hf).1
  obtain ⟨tm,df,pm,rd,h,n,b,wr⟩ :=s
  simp only at hdf he
  subst hdf
  cases um with
  |ret =>
   obtain ⟨vs,h1,h2⟩ :=qnx he _ _ hk
   exact ⟨_,_,_,_,_,h1,he,Kept.refl _ _ _,fun B H hH => ⟨H,hH,USem.done_ret (σ :=AS.st ⟨tm,[],pm,rd,h,n,b,wr⟩ H) hE.T hpf rfl (by show ResV _ _ H.o _ _;rw [hH];exact h2)⟩⟩
  |pan l => exact ⟨_,_,_,_,_,hk,he,Kept.refl _ _ _,fun B H hH => ⟨H,hH,USem.done_pan (σ :=AS.st ⟨tm,[],pm,rd,h,n,b,wr⟩ H) hpf rfl⟩⟩
 | .call d args :: df,um,s,K,hdf,hk,he => by
  obtain ⟨tm,df0,pm,rd,h,n,b,wr⟩ :=s
  simp only at hdf he
  subst hdf
  have hk : (match E.F.get d with
     |none => False
     |some dfn => match dfn.body with
      |none => False
      |some _ => match Nat.ble b n with
       |false => False
       |true => S.fn d .deferred args (pmOf um) h n fun e pm1 h n cw => logW b cw wr fun wr => match qtc um pm1 with
        |true => unw df E S fn (qsf e pm1) ⟨tm,df,pm,rd,h,n,b,wr⟩ K
        |false => False) :=hk
  split at hk
  case h_1 => exact hk.elim
  rename_i dfn hd
  split at hk
  case h_1 => exact hk.elim
  rename_i c hb
  split at hk
  case h_1 => exact hk.elim
  rename_i hbn
  have hbn :=Nat.le_of_ble_eq_true hbn
  obtain ⟨e,pm1,h1,n1,cw,k1,k2,kf,k3⟩ :=hS.fn _ _ _ _ _ _ _ hk he
  obtain ⟨wr',k1,w1,w2⟩ :=qc6 _ _ _ k1
  split at k1
  case h_2 => exact k1.elim
  rename_i hfit
  obtain ⟨e',pm',h',n',wr2,q1,q2,kp,q3⟩ :=qse hE hS hf df _ ⟨tm,df,pm,rd,h1,n1,b,wr'⟩ K rfl k1 k2
  have kp1:Kept b h wr h1 wr' :=⟨w1,fun x hx hn => kf x (by omega) fun h => hn (w2 x h hx)⟩
  refine ⟨e',pm',h',n',wr2,q1,q2,kp1.trans kp,fun B H hH => ?_⟩
  obtain ⟨H1,r1,r2⟩ :=k3 B H hH
  obtain ⟨H2,r3,r4⟩ :=q3 B H1 r1
  have hp:match um with | .ret => pm1 = .ret | .pan _ => ∃ l,pm1 = .pan l :=by
   unfold qtc at hfit
   cases um with
   |ret => cases pm1 <;> simp at hfit ⊢
   |pan l => cases pm1 <;> simp at hfit ⊢
  refine ⟨H2,r3,?_⟩
  cases e with
  |ret v => exact USem.call (σ :=AS.st ⟨tm,.call d args :: df,pm,rd,h,n,b,wr⟩ H) hE.F hd hb rfl r2 (by cases um <;> exact hp) rfl r4
  |panic l => exact USem.call (σ :=AS.st ⟨tm,.call d args :: df,pm,rd,h,n,b,wr⟩ H) hE.F hd hb rfl r2 (by cases um <;> exact hp) rfl r4
 | .mark o :: df,um,s,K,hdf,hk,he => by
  obtain ⟨tm,df0,pm,rd,h,n,b,wr⟩ :=s
  simp only at hdf he
  subst hdf
  have h1 := qiy (K := fun x => match x with
     | .dfr taken => match taken with
      |false => logW b [o] wr fun wr => putO h n o (.dfr true) fun h n => unw df E S fn um ⟨tm,df,pm,rd,h,n,b,wr⟩ K
      |true => False
     | _ => False) hk
  split at h1
  case h_2 => exact h1.elim
  rename_i taken ho
  split at h1
  case h_2 => exact h1.elim
  obtain ⟨wr',h1,w1,w2⟩ :=qc6 _ _ _ h1
  obtain ⟨h2,n2,k1,k2,k3,_⟩ :=qeo h1 he
  obtain ⟨e',pm',h',n',wr2,q1,q2,kp,q3⟩ :=qse hE hS hf df um ⟨tm,df,pm,rd,h2,n2,b,wr'⟩ K rfl k1 k3
  have kp1:Kept b h wr h2 wr' :=Kept.put k2 w1 (w2 o (by simp))
  refine ⟨e',pm',h',n',wr2,q1,q2,kp1.trans kp,fun B H hH => ?_⟩
  obtain ⟨H2,r3,r4⟩ :=q3 B (H.put o (.dfr true) 0) (by rw [k2,← hH];rfl)
  exact ⟨H2,r3,USem.mark (σ :=AS.st ⟨tm,.mark o :: df,pm,rd,h,n,b,wr⟩ H) rfl (by show H.o o = _;rw [hH];exact ho) r4⟩
def qij (a b:APm):Bool :=
 match a with
 | .pan _ => true
 | _ => match b with
  | .pan _ => false
  | _ => true
theorem qmg {a b:APm} (h:qij a b = true):(∀ l,a ≠ .pan l) → ∀ l,b ≠ .pan l :=by
 intro ha l e
 subst e
 unfold qij at h
 split at h
 ·exact ha _ rfl
 ·cases h
def q1s (E:Env) (S:Sub) (fn:Func) (pm:APm) (K:KF) (e:AEx) (s:AS):Prop :=
 match s with
 | ⟨tm,df,pm1,rd,h,n,b,wr⟩ => match qij pm pm1 with
  |false => False
  |true => match e with
   | .normal => unw df E S fn .ret ⟨tm,df,pm1,rd,h,n,b,wr⟩ fun e pm' h n wr => match qij pm1 pm' with
    |true => K e pm' h n wr
    |false => False
   | .ret => unw df E S fn .ret ⟨tm,df,pm1,rd,h,n,b,wr⟩ fun e pm' h n wr => match qij pm1 pm' with
    |true => K e pm' h n wr
    |false => False
   | .panic l => unw df E S fn (.pan l) ⟨tm,df,pm1,rd,h,n,b,wr⟩ fun e pm' h n wr => match qij pm1 pm' with
    |true => K e pm' h n wr
    |false => False
   | .exit _ => False
def exFn (E:Env) (S:Sub) (f:FuncId) (_κ:CallKind) (args:List AV) (pm:APm) (h:Tr AObj) (n:Nat) (K:KF):Prop :=
 match E.F.get f with
 |none => False
 |some fn => match fn.body with
  |none => False
  |some c => fcN E.y fn.ntmps fun m => match Nat.ble args.length m with
   |false => False
   |true => repL .unk m fun t => setL args 0 t fun tm => S.code c ⟨tm,[],pm,false,h,n,n,[]⟩ (q1s E S fn pm K)
def q1r (e:AEx) (um:UMode):Prop :=
 match e with
 | .normal => um = .ret
 | .ret => um = .ret
 | .panic l => um = .pan l
 | .exit _ => False
theorem qfc (hE:E.Ok) (hS:S.Ok E.P) (f:FuncId) (κ:CallKind) (args:List AV) (pm:APm) (h:Tr AObj) (n:Nat) (K:KF) (hk:exFn E S f κ args pm h n K) (he:HEnd h n) :
  ∃ e pm' h' n' cw,K e pm' h' n' cw ∧ HEnd h' n' ∧ (∀ x,x < n → x ∉ cw → hv h' x = hv h x) ∧ ∀ (B:Nat) (H:AH),H.o = hv h → ∃ H':AH,H'.o = hv h' ∧ FSem E.P B f κ args pm H e pm' H' :=by
 unfold exFn at hk
 split at hk
 case h_1 => exact hk.elim
 rename_i fn hf
 split at hk
 case h_1 => exact hk.elim
 rename_i c hb
 have hk :=qu1 hk
 split at hk
 case h_1 => exact hk.elim
 rename_i hle
 have hle :=Nat.le_of_ble_eq_true hle
 obtain ⟨t,h1,h2⟩ :=qny hk
 obtain ⟨tm,h3,h4⟩ :=qnv _ _ _ _ h1
 have hinit:qq0 args fn.ntmps tm :=fun j => by
  rw [h4]
  by_cases hj:j < args.length
  ·simp [hj]
  ·rw [if_neg (by omega),if_neg hj,h2]
 obtain ⟨e,s,h5,h6,h7⟩ :=hS.code _ _ _ h3 he
 obtain ⟨tm1,df,pm1,rd,hh,n1,b1,wr1⟩ :=s
 simp only [q1s] at h5
 split at h5
 case h_1 => exact h5.elim
 rename_i hpk
 have main:∀ um:UMode,q1r e um →
   unw df E S fn um ⟨tm1,df,pm1,rd,hh,n1,b1,wr1⟩ (fun e pm' h n wr => match qij pm1 pm' with | true => K e pm' h n wr | false => False) →
   ∃ e pm' h' n' cw,K e pm' h' n' cw ∧ HEnd h' n' ∧ (∀ x,x < n → x ∉ cw → hv h' x = hv h x) ∧ ∀ (B:Nat) (H:AH),H.o = hv h → ∃ H':AH,H'.o = hv h' ∧ FSem E.P B f κ args pm H e pm' H' :=by
  intro um hum hu
  obtain ⟨e',pm',h',n',wr,q1,q2,kp,q3⟩ :=qse hE hS hf df um _ _ rfl hu h6.he
  have kp0:Kept n h [] hh wr1 :=h6.kept
  have hb1:b1 = n :=h6.b
  subst hb1
  split at q1
  case h_2 => exact q1.elim
  rename_i hpk2
  refine ⟨e',pm',h',n',wr,q1,q2,(kp0.trans kp).same,fun B H hH => ?_⟩
  obtain ⟨H1,k1,k2⟩ :=h7 B H hH
  obtain ⟨H2,k3,k4⟩ :=q3 B H1 k1
  exact ⟨H2,k3,FSem.body (σ1 :=AS.st ⟨tm1,df,pm1,rd,hh,n1,b1,wr1⟩ H1) hE.F hf hb hle hinit (ex :=e) (um :=um) (by cases e <;> exact hum) k2 (qmg hpk) k4 (qmg hpk2)⟩
 cases e with
 |normal => exact main .ret rfl h5
 |ret => exact main .ret rfl h5
 |panic l => exact main (.pan l) rfl h5
 |exit id => exact h5.elim
def sub (E:Env) (fuel:Nat) (d:Nat):Sub :=
 @Nat.rec (fun _ => Sub) ⟨fun _ _ _ => False,fun _ _ _ _ _ _ _ => False,fun _ _ _ _ _ => False,fun _ _ _ _ => False,fun _ _ _ _ => False⟩
  (fun _ ih => ⟨fun c s K => exC c E ih s K,exFn E ih,fun f args h n K => exFn E ih f .normal args .no h n fun e _ h n cw => K e h n cw,fun _ f s K => iter fuel f s K,fun ops n rs Q => @Bool.rec (fun _ => Prop) False Q (qfd ops n rs)⟩) d
theorem qo9 (hE:E.Ok) (fuel:Nat):∀ d,(sub E fuel d).Ok E.P
 | 0 => ⟨fun _ _ _ h => False.elim h,fun _ _ _ _ _ _ _ h => False.elim h,fun _ _ _ _ _ h => False.elim h,fun _ _ _ _ _ h => False.elim h,fun _ _ _ _ h => False.elim h⟩
 |d + 1 => ⟨qgo hE (qo9 hE fuel d),qfc hE (qo9 hE fuel d),fun f args h n K hk he => by
   obtain ⟨e,pm',h',n',cw,k1,k2,kf,k3⟩ :=qfc hE (qo9 hE fuel d) f .normal args .no h n _ hk he
   refine ⟨e,h',n',cw,k1,k2,kf,fun B H hH => ?_⟩
   obtain ⟨H',k4,k5⟩ :=k3 B H hH
   exact ⟨H',k4,CSem.of_F k5⟩,fun c f hf s K hk he => quf hf fuel s K hk he,fun ops n rs Q h => by
   have h:@Bool.rec (fun _ => Prop) False Q (qfd ops n rs) :=h
   cases hd:qfd ops n rs with
   |false => rw [hd] at h;exact False.elim h
   |true => rw [hd] at h;exact ⟨rfl,h⟩⟩
def runV (E:Env) (fuel d:Nat) (f:FuncId) (args:List AV) (v:AV):Prop :=
 (sub E fuel d).fn f .normal args .no .nil 0 fun e _ _ _ _ => match e with
  | .ret u => bif2 (eqA (wk u) v) False True
  | .panic _ => False
theorem qys (hE:E.Ok) {fuel d:Nat} {f:FuncId} {args:List AV} {v:AV} (h:runV E fuel d f args v) (ha:norefs args = true) (hv:noref v = true):Pure E.P f args v :=by
 obtain ⟨e,pm',h',n',_,h1,h2,_,h3⟩ :=(qo9 hE fuel d).fn f .normal args .no .nil 0 _ h qey
 cases e with
 |panic l => exact h1.elim
 |ret u =>
  cases he:eqA (wk u) v with
  |false => simp only at h1;rw [he] at h1;exact False.elim h1
  |true =>
   have e :=qyc _ _ he
   subst e
   refine qkv (fun B => ?_) (qcj _ ha) (Wk.wk u) (qhy _ hv)
   obtain ⟨H',h4,h5⟩ :=h3 B AH.nil qmy.symm
   exact ⟨H',CSem.of_F h5⟩
end
end
end Go.Abs

namespace Go.Abs
open Go
noncomputable section
def EOK (P:Program) (X:FuncId → Option ExtK):Prop :=
 ∀ f k,X f = some k → ∀ args w,(callFunc f args).run P w = ((qw6 k args).run P w).andThen fun v w' => .ok (.value v) w'
def mkEnv (P:Program) (X:FuncId → Option ExtK) (y:Bool) (pu:FuncId → Bool) (M:Memo) (K:Env → Prop):Prop :=
 putL P.types.toList 0 .nil fun T => putL P.funcs.toList 0 .nil fun F => K ⟨P,T,F,⟨X,eqvOf P T⟩,y,pu,M,fun _ _ _ R => R⟩
theorem qwn {P:Program} {X:FuncId → Option ExtK} {y:Bool} {pu:FuncId → Bool} {M:Memo} {K:Env → Prop} (h:mkEnv P X y pu M K) (hn:(P.funcs.toList.all fun fn => !(fn.name == "runtime.NumGoroutine")) = true) (hX:EOK P X) (hm:P.follows .mixedOrders = true) (hM:MOK P M) :
  ∃ E:Env,K E ∧ E.Ok ∧ E.P = P :=by
 obtain ⟨T,h1,h2⟩ :=putL_ok _ _ _ _ h
 obtain ⟨F,h3,h4⟩ :=putL_ok _ _ _ _ h1
 have hT:TOK P T :=by
  intro t i hi
  have hi:T.get t = some i :=hi
  rw [h2] at hi
  split at hi
  ·rename_i hlt
   have hlt':t < P.types.size :=by simpa using hlt.2
   have hi':P.types[t]? = some i :=by simpa using hi
   show P.toTables.info? t = some i
   unfold Tables.info?
   rw [if_pos hlt']
   exact hi'
  ·simp at hi
 refine ⟨⟨P,T,F,⟨X,eqvOf P T⟩,y,pu,M,fun _ _ _ R => R⟩,h3,⟨hT,?_,⟨hX,eqvOf_ok hT⟩,hm,hM,fun _ _ _ _ h => .inr h⟩,rfl⟩
 intro f fn hf
 have hf:F.get f = some fn :=hf
 rw [h4] at hf
 split at hf
 ·have hf':P.funcs.toList[f]? = some fn :=by simpa using hf
  refine ⟨by simpa using hf',?_⟩
  have :=List.all_eq_true.1 hn fn (List.mem_of_getElem? hf')
  simpa using this
 ·simp at hf
theorem HRel.empty (w:World):HRel ⟨fun _ => 0,fun _ => 0,fun _ => 0,fun _ => 0,fun _ => 0⟩ w.heap.size w ⟨0,0,fun _ => .hole⟩ where
 wf :=fun _ _ => rfl
 ge :=fun _ h => absurd rfl h
 inj :=fun _ _ h => absurd rfl h
 rel :=fun _ => trivial
 live :=fun _ => trivial
 kp :=fun _ => trivial
 imz :=fun _ _ => rfl
 hB :=Nat.le_refl _
theorem HRel.nil (w:World):HRel ⟨fun _ => 0,fun _ => 0,fun _ => 0,fun _ => 0,fun _ => 0⟩ w.heap.size w AH.nil :=HRel.empty w
theorem Pure.calls {P:Program} {f:FuncId} {w:World} {b:Bool} (h:Pure P f [] (.bool b)) :
  Calls P f #[] w (fun e w' => e = .returned (.bool b) ∧ RowKit.Below w.heap.size w w') :=by
 intro cs
 obtain ⟨g',fr',w',h1,h2,h3,u,h4,h5,_⟩ :=h.2 w.heap.size AH.nil _ #[] cs w (HRel.nil w) (by simp [VRels]) trivial
 simp only [VRel] at h5
 subst h5
 exact ⟨.returned (.bool b),w',fr',⟨rfl,h1.below⟩,h2,h3,h4⟩
theorem pure_run {P:Program} {X:FuncId → Option ExtK} {y:Bool} {pu:FuncId → Bool} {M:Memo} {fuel d:Nat} {f:FuncId} {args:List AV} {v:AV} (h:mkEnv P X y pu M fun E => runV E fuel d f args v)
  (hn:(P.funcs.toList.all fun fn => !(fn.name == "runtime.NumGoroutine")) = true) (hX:EOK P X) (hm:P.follows .mixedOrders = true) (hM:MOK P M) (ha:norefs args = true) (hv:noref v = true):Pure P f args v :=by
 obtain ⟨E,h1,h2,rfl⟩ :=qwn h hn hX hm hM
 exact qys h2 h1 ha hv
end
end Go.Abs
