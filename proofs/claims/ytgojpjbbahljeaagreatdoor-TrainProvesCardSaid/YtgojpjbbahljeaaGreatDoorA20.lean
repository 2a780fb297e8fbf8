/-
  recover, and loops over functions.
-/
import Derived.Test.YtgojpjbbahljeaaGreatDoorA19
/-! recover, and loops over functions. -/
namespace Go.Abs
open Go
noncomputable section

mutual
theorem Live.bd_le {L : Nat → Prop} {n : Nat} (hL : ∀ i, L i → i < n) : ∀ (a : AV), Live L a → bd a ≤ n
  | .unk, _ => Nat.zero_le _
  | .int _ _, _ => Nat.zero_le _
  | .bool _, _ => Nat.zero_le _
  | .str _, _ => Nat.zero_le _
  | .nilp, _ => Nat.zero_le _
  | .ptr _ _, h => hL _ h
  | .lptr xs _, h => Lives.bd_le hL xs h
  | .gp _ _, _ => Nat.zero_le _
  | .nils, _ => Nat.zero_le _
  | .slc _ _ _ _, h => hL _ h
  | .lst xs _ .no, h => Lives.bd_le hL xs h.1
  | .lst xs _ .full, h => Lives.bd_le hL xs h.1
  | .lst xs _ (.ch c), h => Nat.max_le.2 ⟨hL _ (h.2 c rfl), Lives.bd_le hL xs h.1⟩
  | .nilm, _ => Nat.zero_le _
  | .map _, h => hL _ h
  | .nilf, _ => Nat.zero_le _
  | .func _ f c, h => Nat.max_le.2 ⟨Lives.bd_le hL f h.1, Lives.bd_le hL c h.2⟩
  | .yld _, h => hL _ h
  | .nili, _ => Nat.zero_le _
  | .iface _ a, h => Live.bd_le hL a h
  | .agg cs, h => Lives.bd_le hL cs h
  | .tup cs, h => Lives.bd_le hL cs h
theorem Lives.bd_le {L : Nat → Prop} {n : Nat} (hL : ∀ i, L i → i < n) : ∀ (xs : List AV), Lives L xs → bdl xs ≤ n
  | [], _ => Nat.zero_le _
  | x :: xs, h => Nat.max_le.2 ⟨Live.bd_le hL x h.1, Lives.bd_le hL xs h.2⟩
end

section
variable {P : Program} {B : Nat} {σ σ1 σ2 σ' : St} {T : Tr TypeInfo} {F : Tr Func} {X : XT}

/-- recover, in a deferred call of a frame that panics. -/
theorem OpS.recover_pan (hT : TOK P T) (hF : FOK P F) (hX : XOK P X) {ops : Array Oper} {i s : Nat} {o : Oper} (ho : ops[i]? = some o) (hg : guardA ops σ.tm o = some true) (hsl : σ.H.o s = .hole) {R : List Nat} {W : WL}
    (hev : EvF s (pOp P T F X (aev σ.tm) o) σ.H.o .recover R W) (hrd : σ.rd = false) {v : AV} {l : List (AV × Bool)} (hpm : σ.pm = .pan ((v, false) :: l)) {tm' : Tr AV} (hs : SetD σ.tm o.dst v tm') :
    OpS P B ops i σ .normal { σ with tm := tm', pm := .pan ((v, true) :: l) } := by
  intro g fr cs w rest k hr hm ht
  obtain ⟨rfl, h1⟩ := pOp_ok (opCtx hT hF hr hsl) hX hev
  have hro := hr.rd hrd
  have hst := stepG_oper (P := P) (cs := cs) (w := w) hm ht ho (guardA_ok hr.tm hg) (.inl hro)
  have hp := hr.pm
  rw [hpm] at hp
  obtain ⟨p1, p2, c0, rest0, chain, p3, p4, p5⟩ := hp
  obtain ⟨e, es', p6, p7, p8, p9, p10, p11⟩ := p5
  obtain ⟨ev, er, eg⟩ := e
  simp only at p7 p9 p10
  subst p9 p10 p6 p3
  have htry : tryRecover fr (c0 :: rest0) = some (ev, { c0 with mode := .panicking ({ v := ev, recovered := true } :: es') } :: rest0) := by
    simp [tryRecover, p1, p4]
  refine ⟨g, fr.finish ev, { c0 with mode := .panicking ({ v := ev, recovered := true } :: es') } :: rest0, w, ?_, Out.refl hr.h, ?_, ?_, fun h => absurd hpm (h _), ?_, step_go ?_⟩
  · have h0 : FrRel g B w { σ with pm := .no } fr (c0 :: rest0) := ⟨hr.h, hr.tm, hr.df, trivial, hr.rd⟩
    have h1 := h0.finish ht ho p7 p8 hs
    refine ⟨h1.h, h1.tm, h1.df, ?_, h1.rd⟩
    rw [finish_region ht ho]
    refine ⟨p1, p2, _, _, _, rfl, rfl, ?_⟩
    exact ⟨_, _, rfl, p7, p8, rfl, rfl, p11⟩
  · rw [finish_region ht ho]; exact ⟨rfl, rfl, rfl⟩
  · rw [hpm]; exact ⟨c0, rest0, _, rfl, rfl⟩
  · rw [finish_region ht ho]; exact ⟨hm, rfl⟩
  · rw [hst]; simp [stepG.apply, h1, hro, htry]

/-- recover, where there is nothing to recover. -/
theorem OpS.recover_nil (hT : TOK P T) (hF : FOK P F) (hX : XOK P X) {ops : Array Oper} {i s : Nat} {o : Oper} (ho : ops[i]? = some o) (hg : guardA ops σ.tm o = some true) (hsl : σ.H.o s = .hole) {R : List Nat} {W : WL}
    (hev : EvF s (pOp P T F X (aev σ.tm) o) σ.H.o .recover R W) (hrd : σ.rd = false) (hpm : σ.pm = .ret) {tm' : Tr AV} (hs : SetD σ.tm o.dst .nili tm') :
    OpS P B ops i σ .normal { σ with tm := tm' } := by
  intro g fr cs w rest k hr hm ht
  obtain ⟨rfl, h1⟩ := pOp_ok (opCtx hT hF hr hsl) hX hev
  have hro := hr.rd hrd
  have hst := stepG_oper (P := P) (cs := cs) (w := w) hm ht ho (guardA_ok hr.tm hg) (.inl hro)
  have hp := hr.pm
  rw [hpm] at hp
  obtain ⟨p1, p2, c0, rest0, p3, p4⟩ := hp
  have htry : tryRecover fr cs = Option.none := by
    simp [tryRecover, p1, p3, p4]
  have hu : VRel g w .nili .nilIface := rfl
  refine ⟨g, fr.finish .nilIface, cs, w, hr.finish ht ho hu trivial hs, Out.refl hr.h, ?_, CsOk.refl _ _ _ hr.pm, fun h => h, ?_, step_go ?_⟩
  · rw [finish_region ht ho]; exact ⟨rfl, rfl, rfl⟩
  · rw [finish_region ht ho]; exact ⟨hm, rfl⟩
  · rw [hst]; simp [stepG.apply, h1, hro, htry]

def SetAll (tm : Tr AV) : List (Nat × AV) → Tr AV → Prop
  | [], tm' => tm' = tm
  | (p, a) :: r, tm' => ∃ t1, SetD tm (some p) a t1 ∧ SetAll t1 r tm'

theorem FRel.setAll {g : Gh} {w : World} {L : Nat → Prop} : ∀ (ps : List Nat) (args : List AV) (vs : List Value) {tm tm' : Tr AV} {arr : Array Value}, VRels g w args vs → Lives L args → SetAll tm (ps.zip args) tm' → FRel g w L tm arr →
    FRel g w L tm' ((ps.zip vs).foldl (fun tmps (t, a) => tmps.setIfInBounds t a) arr)
  | [], _, _, _, _, _, _, _, h, hf => by
    simp only [List.zip_nil_left, SetAll] at h
    subst h
    simpa using hf
  | _ :: _, [], _, _, _, _, hv, _, h, hf => by
    simp only [VRels] at hv
    simp only [List.zip_nil_right, SetAll] at h
    subst h; subst hv
    simpa using hf
  | p :: ps, a :: args, vs, _, _, _, hv, hl, h, hf => by
    obtain ⟨u, us, e, h1, h2⟩ := hv
    subst e
    obtain ⟨t1, h3, h4⟩ := h
    have := FRel.setAll ps args us h2 hl.2 h4 (hf.set h3.1 h3.2 h1 hl.1)
    simpa using this

/-- A loop's object goes to another state. -/
theorem HRel.setLoop {g : Gh} {w : World} {H : AH} (h : HRel g B w H) {l : Nat} {st : LoopState} {fn : FuncId} {tm : Tr AV} {nt : Nat} {params : List Tmp} {assign body : Code} {dfr : Nat}
    (hl : H.o l = .loop st fn tm nt params assign body dfr) {lp : Loop} (hlp : w.heap[g.ob l]? = some (.loop lp)) (st' : LoopState) {lp' : Loop} (he : lp' = { lp with state := st', pending := Option.none }) :
    Out g B w H g { w with heap := w.heap.setIfInBounds (g.ob l) (.loop lp') } (H.put l (.loop st' fn tm nt params assign body dfr) 0) := by
  have hL : H.L l := by unfold AH.L; rw [hl]; simp
  have hr := h.rel l
  rw [hl] at hr
  obtain ⟨lp0, q1, q2, q3, q4, q6, q7, q8, q9, q10⟩ := hr
  rw [hlp] at q1
  injection q1 with q1
  injection q1 with q1
  subst q1
  have hlt : g.ob l < w.heap.size := by
    have := (h.ge l hL).2
    rw [hl] at this
    exact this
  have hlv := h.live l
  rw [hl] at hlv
  have hk := h.kp l
  rw [hl] at hk
  refine h.setOb hL (by rw [hl]; rfl) q2 (by simp) rfl 0 (by simp) (fun k hk => ?_) rfl rfl rfl ?_ ?_ ?_
  · show (w.heap.setIfInBounds (g.ob l) _)[k]? = _
    rw [Array.getElem?_setIfInBounds_ne (by omega)]
  · intro hx
    refine ⟨lp', ?_, q2, by rw [he], by rw [he], ?_, by rw [he]; exact q7, by rw [he]; exact q8, by rw [he]; exact q9, by rw [he]; exact q10⟩
    · show (w.heap.setIfInBounds (g.ob l) _)[g.ob l]? = _
      rw [Array.getElem?_setIfInBounds_self_of_lt hlt]
    · subst he
      exact q6.ext hx hlv.1
  · exact ⟨fun j a hj => (hlv.1 j a hj).mono fun i hi => AH.put_L H l _ (by simp) hi, AH.put_L H l _ (by simp) hlv.2⟩
  · have : (H.put l (.loop st' fn tm nt params assign body dfr) 0).keep = H.keep := by simp [AH.put]
    rw [this]
    exact hk

/-- A round of a loop over a function. -/
theorem OpS.yld (hT : TOK P T) (hF : FOK P F) (hX : XOK P X) {ops : Array Oper} {i s : Nat} {o : Oper} (ho : ops[i]? = some o) (hg : guardA ops σ.tm o = some true) (hsl : σ.H.o s = .hole) {l : Nat} {args : List AV} {R : List Nat} {W : WL}
    (hev : EvF s (pOp P T F X (aev σ.tm) o) σ.H.o (.yld l args) R W) {fn : FuncId} {tm : Tr AV} {nt : Nat} {params : List Tmp} {assign body : Code} {dfr : Nat}
    (hl : σ.H.o l = .loop .ready fn tm nt params assign body dfr) {tm0 : Tr AV} (hset : SetAll tm (params.zip args) tm0)
    (hassign : Sem P B assign { tm := tm0, df := [], pm := .no, rd := true, H := σ.H } .normal σ1)
    {fn1 : FuncId} {tm1 : Tr AV} {nt1 : Nat} {params1 : List Tmp} {assign1 body1 : Code} {dfr1 : Nat} (h1 : σ1.H.o l = .loop .ready fn1 tm1 nt1 params1 assign1 body1 dfr1)
    (hbody : Sem P B body { σ1 with H := σ1.H.put l (.loop .busy fn1 tm1 nt1 params1 assign1 body1 dfr1) 0 } .normal σ2)
    {st2 : LoopState} {fn2 : FuncId} {tm2 : Tr AV} {nt2 : Nat} {params2 : List Tmp} {assign2 body2 : Code} {dfr2 : Nat} (h2 : σ2.H.o l = .loop st2 fn2 tm2 nt2 params2 assign2 body2 dfr2)
    {tm' : Tr AV} (hs : SetD σ.tm o.dst (.bool true) tm') :
    OpS P B ops i σ .normal { σ with tm := tm', H := σ2.H.put l (.loop .ready fn2 tm2 nt2 params2 assign2 body2 dfr2) 0 } := by
  intro g fr cs w rest k hr hm ht
  obtain ⟨rfl, hL, vs, ⟨st', fn', tmx, nt', params', assign', body', dfr', e0, hsz, lp, hlp, hres⟩, hv, hlv⟩ := pOp_ok (opCtx hT hF hr hsl) hX hev
  have hst := stepG_oper (P := P) (cs := cs) (w := w) hm ht ho (guardA_ok hr.tm hg) (.inr (isDefer_of hev (by intro f args e; cases e)))
  rw [hl] at e0
  cases e0
  have hro := hr.h.rel l
  rw [hl] at hro
  obtain ⟨lp0, q1, q2, q3, q4, q6, q7, q8, q9, q10⟩ := hro
  rw [hlp] at q1
  injection q1 with q1
  injection q1 with q1
  subst q1
  have hlvl := hr.h.live l
  rw [hl] at hlvl
  -- the round's frame
  have hfold : (lp.params.zip vs).foldl (fun tmps (t, a) => tmps.setIfInBounds t a) lp.tmps = (params.zip vs.toList).foldl (fun tmps (t, a) => tmps.setIfInBounds t a) lp.tmps := by
    rw [← Array.foldl_toList, Array.toList_zip, q7]
  have hf0 : FRel g w σ.H.L tm0 ((lp.params.zip vs).foldl (fun tmps (t, a) => tmps.setIfInBounds t a) lp.tmps) := by
    rw [hfold]
    exact FRel.setAll params args vs.toList hv hlv hset ⟨q6, hlvl.1⟩
  generalize hr0 : Frame.round (g.ob l) lp.fn ((lp.params.zip vs).foldl (fun tmps (t, a) => tmps.setIfInBounds t a) lp.tmps) lp.assign lp.body .normal = r0
  have hrel0 : FrRel g B w { tm := tm0, df := [], pm := .no, rd := true, H := σ.H } r0 (fr :: cs) := by
    rw [← hr0]
    exact ⟨hr.h, hf0, rfl, trivial, fun e => by cases e⟩
  have hm0 : r0.mode = .run := by rw [← hr0]; rfl
  have ht0 : r0.todo = [.code assign] ++ [.beginRound, .code body] := by rw [← hr0, ← q8, ← q9]; rfl
  have hro0 : r0.roundOf = some (g.ob l) := by rw [← hr0]; rfl
  have hk0 : r0.kind = .normal := by rw [← hr0]; rfl
  obtain ⟨g1, r1, cs1, w1, a1, a2, a3, a4, a5, a6, a7⟩ := hassign g r0 (fr :: cs) w _ hrel0 hm0 ht0 (fun e => by cases e) _ rfl
  have a4 : cs1 = fr :: cs := a4
  subst a4
  have ho1 : g1.ob l = g.ob l := a2.ext.ob l hL
  -- the round begins
  have hro1 := a1.h.rel l
  rw [h1] at hro1
  obtain ⟨lp1, b1, b2, b3, b4, b6, b7, b8, b9, b10⟩ := hro1
  have hbeg : (Instr.beginRound (g.ob l)).run P w1 = .ok () { w1 with heap := w1.heap.setIfInBounds (g1.ob l) (.loop { lp1 with state := .busy, pending := Option.none }) } := by
    rw [← ho1]
    obtain ⟨ls, lpe, lf, lt, lps, la, lb, ld⟩ := lp1
    simp only at b3 b4
    subst b3 b4
    simp [Instr.beginRound, Instr.getLoop, getObj, setObj, Go.Sem.run, b1]
  have ob := a1.h.setLoop h1 b1 .busy rfl
  generalize hw2 : ({ w1 with heap := w1.heap.setIfInBounds (g1.ob l) (.loop { lp1 with state := .busy, pending := Option.none }) } : World) = w2 at hbeg ob
  have ro1 : r1.roundOf = some (g.ob l) := by rw [a3.round]; exact hro0
  have st1 : Steps P (lone r1 (fr :: cs) w1) (lone { r1 with todo := [.code body] } (fr :: cs) w2) := step_go (by
    simp [stepG, stepG.exec, a6.1, a6.2, stepG.apply, ro1, hbeg, Frame.finish])
  have hrel1 : FrRel g1 B w2 { σ1 with H := σ1.H.put l (.loop .busy fn1 tm1 nt1 params1 assign1 body1 dfr1) 0 } { r1 with todo := [.code body] } (fr :: cs) := (a1.out ob).todo _
  have hmm : ({ r1 with todo := [.code body] } : Frame).mode = .run := a6.1
  obtain ⟨g2, r2, cs2, w3, c1, c2, c3, c4, c5, c6, c7⟩ := hbody g1 { r1 with todo := [.code body] } (fr :: cs) w2 [] hrel1 hmm rfl (fun e => by cases e) _ rfl
  have c4' := CsOk.trans (pm := .no) (b := fr :: cs) rfl c4 (fun _ => a5 (by intro l; simp))
  have c4' : cs2 = fr :: cs := c4'
  subst c4'
  have hL1 : σ1.H.L l := a2.L l hL
  have ho2 : g2.ob l = g.ob l := by rw [c2.ext.ob l (AH.put_L σ1.H l _ (by simp) hL1), ho1]
  have hro2 := c1.h.rel l
  rw [h2] at hro2
  obtain ⟨lp2, d1, d2, d3, d4, d6, d7, d8, d9, d10⟩ := hro2
  have oe := c1.h.setLoop h2 d1 .ready rfl
  have hend : (Instr.endRound (g.ob l) Option.none).run P w3 = .ok (.bool true) { w3 with heap := w3.heap.setIfInBounds (g2.ob l) (.loop { lp2 with state := .ready, pending := Option.none }) } := by
    rw [← ho2]
    simp [Instr.endRound, Instr.getLoop, getObj, setObj, Go.Sem.run, d1]
  generalize hw4 : ({ w3 with heap := w3.heap.setIfInBounds (g2.ob l) (.loop { lp2 with state := .ready, pending := Option.none }) } : World) = w4 at hend oe
  have ro2 : r2.roundOf = some (g.ob l) := by rw [c3.round]; exact ro1
  have k2 : r2.kind = .normal := by rw [c3.kind]; exact a3.kind.trans hk0
  have hall : Out g B w σ.H g2 w4 (σ2.H.put l (.loop .ready fn2 tm2 nt2 params2 assign2 body2 dfr2) 0) := a2.trans (ob.trans (c2.trans oe))
  have hr' := hr.out hall
  have hu : VRel g2 w4 (.bool true) (.bool true) := rfl
  refine ⟨g2, fr.finish (.bool true), cs, w4, hr'.finish ht ho hu trivial hs, hall, ?_, CsOk.refl _ _ _ hr.pm, fun h => h, ?_, ?_⟩
  · rw [finish_region ht ho]; exact ⟨rfl, rfl, rfl⟩
  · rw [finish_region ht ho]; exact ⟨hm, rfl⟩
  · refine Steps.trans (step_go (fr' := r0) (cs' := fr :: cs) (w' := w) ?_) (Steps.trans a7 (st1.trans (c7.trans (step_go ?_))))
    · rw [hst, ← hr0]; simp [stepG.apply, hres]
    · simp [stepG, stepG.exec, c6.1, c6.2, ro2, hend, doReturn, k2]

/-- A loop over a function whose body ends its rounds in the normal way. -/
theorem Sem.rangeFunc (hF : FOK P F) {f : Operand} {params : Array Tmp} {assign body : Code} {fid : FuncId} {first cap : List AV} (hv : aev σ.tm f = .func (.func fid) first cap) (hrd : σ.rd = false) {dfn : Func} {c : Code} (hd : F.get fid = some dfn) (hb : dfn.body = some c)
    {fnid : FuncId} {nt : Nat} {v : AV} {H1 : AH}
    (hcall : CSem P B fid (first ++ (.yld (σ.H.n + 1) :: cap)) ((σ.H.put σ.H.n (.dfr false) 0).put (σ.H.n + 1) (.loop .ready fnid σ.tm nt params.toList assign body σ.H.n) 0) (.ret v) H1)
    {st2 : LoopState} {fn2 : FuncId} {tm2 : Tr AV} {nt2 : Nat} {params2 : List Tmp} {assign2 body2 : Code} {dfr2 : Nat} (h2 : H1.o (σ.H.n + 1) = .loop st2 fn2 tm2 nt2 params2 assign2 body2 dfr2) (hst2 : st2 = .ready) :
    Sem P B (.rangeFunc f params assign body) σ .normal { σ with df := .mark σ.H.n :: σ.df, H := H1.put (σ.H.n + 1) (.loop .exhausted fn2 tm2 nt2 params2 assign2 body2 dfr2) 0 } := by
  subst hst2
  intro g fr cs w k hr hm ht hro k' hk
  simp only [tgt, Option.some.injEq] at hk
  subst hk
  have hround := hr.rd hrd
  have hLn : ∀ i, σ.H.L i → i < σ.H.n := fun i hi => Nat.lt_of_not_le fun h => hi (hr.h.wf i h)
  -- the block of deferred calls
  have hs1 : σ.H.o σ.H.n = .hole := hr.h.wf _ (Nat.le_refl _)
  obtain ⟨g1, o1, e1⟩ := hr.h.newOb hs1 (x := .dfr false) (by simp) (fun _ _ => rfl) (.deferred (some [])) 0
    (fun g' e1 e2 _ _ => ⟨by rw [e1]; exact heap_alloc_new _ _, by rw [e1]; exact e2⟩) trivial trivial
  generalize hw1 : w.alloc (.deferred (some [])) = w1 at o1
  generalize hH1 : σ.H.put σ.H.n (.dfr false) 0 = Ha at o1 hcall
  have hHan : Ha.n = σ.H.n + 1 := by rw [← hH1]; simp [AH.put]
  have hHad : Ha.L σ.H.n := by rw [← hH1]; simp [AH.put, AH.L, upd]
  -- the loop's object
  have hs2 : Ha.o (σ.H.n + 1) = .hole := o1.rel.wf _ (by omega)
  have htm1 := hr.tm.ext o1.ext o1.L
  have hLa : ∀ i, Ha.L i → i < σ.H.n + 1 := fun i hi => Nat.lt_of_not_le fun h => hi (o1.rel.wf i (by omega))
  obtain ⟨g2, o2, e2⟩ := o1.rel.newOb hs2 (x := .loop .ready fnid σ.tm nt params.toList assign body σ.H.n) (by simp) (fun _ _ => rfl)
    (.loop { state := .ready, pending := Option.none, fn := fr.fn, tmps := fr.tmps, params := params, assign := assign, body := body, defers := g1.ob σ.H.n }) 0
    (fun g' e1 e2 e3 hx => ⟨_, by rw [e1]; exact heap_alloc_new _ _, by rw [e1]; exact e2, rfl, rfl, fun j a hj => ⟨(htm1.rel j a hj).1, (htm1.rel j a hj).2.ext hx _ _ (htm1.live j a hj)⟩, rfl, rfl, rfl, (e3 _ hHad).symm⟩)
    ⟨fun j a hj => (htm1.live j a hj).mono fun i hi => AH.put_L Ha _ _ (by simp) hi, AH.put_L Ha _ _ (by simp) hHad⟩
    ⟨fun j a hj => Nat.le_trans (Live.bd_le hLa a (htm1.live j a hj)) (by omega), by omega⟩
  generalize hlpe : ({ state := .ready, pending := Option.none, fn := fr.fn, tmps := fr.tmps, params := params, assign := assign, body := body, defers := g1.ob σ.H.n } : Loop) = lpe at o2
  generalize hw2 : w1.alloc (.loop lpe) = w2 at o2
  generalize hH2 : Ha.put (σ.H.n + 1) (.loop .ready fnid σ.tm nt params.toList assign body σ.H.n) 0 = Hb at o2 hcall
  have hHbL : Hb.L (σ.H.n + 1) := by rw [← hH2]; simp [AH.put, AH.L, upd]
  have henter : (Instr.enterLoop fr.fn fr.tmps params assign body Option.none).run P w = .ok (g2.ob (σ.H.n + 1), [{ target := .collected (g1.ob σ.H.n), args := #[] }]) w2 := by
    rw [e2, ← hw2, ← hlpe, e1, ← hw1]
    simp only [Instr.enterLoop, Go.Sem.run_bind, Result.andThen_ok, Go.Sem.run_pure, run_newObj]
    rfl
  generalize hy : (Value.func (.yield (g2.ob (σ.H.n + 1))) #[] #[]) = y
  have hyv : VRel g2 w2 (.yld (σ.H.n + 1)) y := hy.symm
  have hround2 : ({ fr with todo := .inRangeFunc (g2.ob (σ.H.n + 1)) :: k, defers := { target := .collected (g1.ob σ.H.n), args := #[] } :: fr.defers } : Frame).roundOf = Option.none := hround
  -- the call
  have hf := hr.tm.ev (a := { tmps := fr.tmps, defers := fr.defers }) f
  rw [hv] at hf
  have hlf := hr.tm.evl (x := f)
  rw [hv] at hlf
  have o12 := o1.trans o2
  obtain ⟨vf, vc, q1, q2, q3⟩ := hf.ext o12.ext _ _ hlf
  have hlf' := hlf.mono o12.L
  have hall : VRels g2 w2 (first ++ (.yld (σ.H.n + 1) :: cap)) (vf.push y ++ vc).toList := by
    rw [Array.toList_append, Array.toList_push, List.append_assoc]
    exact q2.append ⟨_, _, rfl, hyv, q3⟩
  have hlall : Lives Hb.L (first ++ (.yld (σ.H.n + 1) :: cap)) := Lives.append hlf'.1 ⟨hHbL, hlf'.2⟩
  have hev : fr.eval f = .func (.func fid) vf vc := by rw [← q1]; cases f <;> rfl
  generalize hfr2 : ({ fr with todo := .inRangeFunc (g2.ob (σ.H.n + 1)) :: k, defers := { target := .collected (g1.ob σ.H.n), args := #[] } :: fr.defers } : Frame) = fr2 at hround2
  have hr2 : FrRel g2 B w2 { σ with df := .mark σ.H.n :: σ.df, H := Hb } fr2 cs := by
    have h0 := hr.out o12
    rw [← hfr2]
    refine ⟨h0.h, h0.tm, ⟨_, ?_, o2.L _ hHad, h0.df⟩, ?_, h0.rd⟩
    · rw [o2.ext.ob _ hHad]
    · have := h0.pm
      unfold PmRel at *
      split at this <;> simp_all
  have hm2 : fr2.mode = .run := by rw [← hfr2]; exact hm
  have ht2 : fr2.todo = .inRangeFunc (g2.ob (σ.H.n + 1)) :: k := by rw [← hfr2]
  obtain ⟨g3, fr3, w3, k1, k2, k3, u, k4, k5, k6⟩ := hcall g2 _ (fr2 :: cs) w2 o12.rel hall hlall
  have hr3 := hr2.out k1
  have hob3 : g3.ob (σ.H.n + 1) = g2.ob (σ.H.n + 1) := k1.ext.ob _ hHbL
  have hro3 := k1.rel.rel (σ.H.n + 1)
  rw [h2] at hro3
  obtain ⟨lp2, d1, d2, d3, d4, d6, d7, d8, d9, d10⟩ := hro3
  have oe := k1.rel.setLoop h2 d1 .exhausted rfl
  have hend : (Instr.endLoop (g2.ob (σ.H.n + 1))).run P w3 = .ok Option.none { w3 with heap := w3.heap.setIfInBounds (g3.ob (σ.H.n + 1)) (.loop { lp2 with state := .exhausted, pending := Option.none }) } := by
    rw [← hob3]
    obtain ⟨ls, lpe, lf, lt, lps, la, lb, ld⟩ := lp2
    simp only at d3 d4
    subst d3 d4
    simp [Instr.endLoop, Instr.getLoop, getObj, setObj, Go.Sem.run, d1]
  generalize hw4 : ({ w3 with heap := w3.heap.setIfInBounds (g3.ob (σ.H.n + 1)) (.loop { lp2 with state := .exhausted, pending := Option.none }) } : World) = w4 at hend oe
  have hr4 := hr3.out oe
  refine ⟨g3, { fr2 with todo := k }, cs, w4, hr4.todo _, o12.trans (k1.trans oe), ?_, CsOk.refl _ _ _ hr.pm, fun h => h, ⟨hm2, rfl⟩, ?_⟩
  · rw [← hfr2]; exact ⟨rfl, rfl, rfl⟩
  · refine Steps.trans (step_go (fr' := Frame.enter P fid (vf.push y ++ vc) .normal) (cs' := fr2 :: cs) (w' := w2) ?_) (Steps.trans k2 (Steps.trans (.one (step_leave_returned k4)) (step_go ?_)))
    · have hce := callFunc_enter hF hd hb (vf.push y ++ vc) w2
      simp only [List.cons_append, List.nil_append] at ht
      rw [← hfr2]
      cases f <;> simp only [Frame.eval] at hev <;> simp [stepG, stepG.exec, hm, ht, hround, henter, stepG.apply, resolve, Deferred.ofValue, invoke, Frame.eval, hev, hy, hce]
    · simp [stepG, stepG.exec, Frame.finish, hm2, ht2, hend]

end
end
end Go.Abs
