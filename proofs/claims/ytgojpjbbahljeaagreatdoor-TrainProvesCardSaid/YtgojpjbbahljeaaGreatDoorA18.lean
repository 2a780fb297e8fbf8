/-
  Operations within a frame; regions in order.
-/
import Derived.Test.YtgojpjbbahljeaaGreatDoorA17
/-! Operations within a frame; regions in order. -/
namespace Go.Abs
open Go
noncomputable section

inductive AEnd where
  | ret (v : AV)
  | panic (l : List (AV × Bool))

def EndOk (P : Program) (g : Gh) (w : World) (L : Nat → Prop) (e : AEnd) (fr : Frame) : Prop :=
  match e with
  | .ret v => ∃ u, fr.leaving P w (.returned u) ∧ VRel g w v u ∧ Live L v
  | .panic l => ∃ chain, fr.leaving P w (.panicked chain) ∧ ChainRel g w L l chain

/-- A call, from an abstract heap, ends so, in that heap. -/
def CSem (P : Program) (B : Nat) (f : FuncId) (args : List AV) (H : AH) (e : AEnd) (H' : AH) : Prop :=
  ∀ g vs cs w, HRel g B w H → VRels g w args vs.toList → Lives H.L args →
    ∃ g' fr' w', Out g B w H g' w' H' ∧ Steps P (lone (Frame.enter P f vs .normal) cs w) (lone fr' cs w') ∧ fr'.fn = f ∧ EndOk P g' w' H'.L e fr'

/-- A round of a loop over a function: the loop's object, its arguments. -/
def RSem (P : Program) (B : Nat) (l : Nat) (args : List AV) (H : AH) (e : AEnd) (H' : AH) : Prop :=
  ∀ g vs fr cs w (lp : Loop), HRel g B w H → VRels g w args vs.toList → Lives H.L args → w.heap[g.ob l]? = some (.loop lp) → H.L l →
    ∃ g' w', Out g B w H g' w' H' ∧ match e with
      | .ret v => ∃ u, VRel g' w' v u ∧ Live H'.L v ∧
          Steps P (lone (Frame.round (g.ob l) lp.fn ((lp.params.zip vs).foldl (fun tmps (t, a) => tmps.setIfInBounds t a) lp.tmps) lp.assign lp.body .normal) (fr :: cs) w) (lone (fr.finish u) cs w')
      | .panic _ => False

section
variable {P : Program} {B : Nat} {σ σ1 σ' : St} {e : AEx} {T : Tr TypeInfo} {F : Tr Func} {X : XT}

theorem ChainRel.ext {L L' : Nat → Prop} {g g' : Gh} {w w' : World} (hx : Ext L g w g' w') (hl : ∀ i, L i → L' i) : ∀ {l : List (AV × Bool)} {es : List PanicEntry}, ChainRel g w L l es → ChainRel g' w' L' l es
  | [], _, h => h
  | (_, _) :: _, _, h => by
    obtain ⟨e, es', e1, h1, h2, h3, h4, h5⟩ := h
    exact ⟨e, es', e1, h1.ext hx _ _ h2, h2.mono hl, h3, h4, ChainRel.ext hx hl h5⟩

theorem DfRel.ext {L L' : Nat → Prop} {g g' : Gh} {w w' : World} (hx : Ext L g w g' w') (hl : ∀ i, L i → L' i) : ∀ {l : List ADf} {ds : List Deferred}, DfRel g w L l ds → DfRel g' w' L' l ds
  | [], _, h => h
  | .call f args :: _, _, h => by
    obtain ⟨d, ds', e1, ⟨cap, as, e2, h1⟩, h2, h3⟩ := h
    exact ⟨d, ds', e1, ⟨cap, as, e2, h1.ext hx _ _ h2⟩, h2.mono hl, DfRel.ext hx hl h3⟩
  | .mark o :: _, _, h => by
    obtain ⟨ds', e1, h1, h2⟩ := h
    exact ⟨ds', by rw [hx.ob o h1]; exact e1, hl o h1, DfRel.ext hx hl h2⟩

theorem PmRel.ext {L L' : Nat → Prop} {g g' : Gh} {w w' : World} (hx : Ext L g w g' w') (hl : ∀ i, L i → L' i) {pm : APm} {fr : Frame} {cs : List Frame} (h : PmRel g w L pm fr cs) : PmRel g' w' L' pm fr cs := by
  cases pm with
  | no => trivial
  | ret => exact h
  | pan l =>
    obtain ⟨h1, h2, c0, rest, chain, h3, h4, h5⟩ := h
    exact ⟨h1, h2, c0, rest, chain, h3, h4, h5.ext hx hl⟩

theorem FRel.ext {L L' : Nat → Prop} {g g' : Gh} {w w' : World} (hx : Ext L g w g' w') (hl : ∀ i, L i → L' i) {tm : Tr AV} {arr : Array Value} (h : FRel g w L tm arr) : FRel g' w' L' tm arr :=
  ⟨fun t a ht => ⟨(h.rel t a ht).1, (h.rel t a ht).2.ext hx _ _ (h.live t a ht)⟩, fun t a ht => (h.live t a ht).mono hl⟩

/-- The heap has gone on; the frame is as it was. -/
theorem FrRel.out {g g' : Gh} {w w' : World} {fr : Frame} {cs : List Frame} {H' : AH} (h : FrRel g B w σ fr cs) (ho : Out g B w σ.H g' w' H') : FrRel g' B w' { σ with H := H' } fr cs :=
  ⟨ho.rel, h.tm.ext ho.ext ho.L, h.df.ext ho.ext ho.L, h.pm.ext ho.ext ho.L, h.rd⟩

/-- A temporary is written. -/
theorem FRel.set {L : Nat → Prop} {g : Gh} {w : World} {tm tm' : Tr AV} {arr : Array Value} (h : FRel g w L tm arr) {d : Nat} {v : AV} {u : Value} (hd : ∃ y, tm.get d = some y)
    (ht : ∀ j, tm'.get j = if j = d then some v else tm.get j) (hv : VRel g w v u) (hl : Live L v) : FRel g w L tm' (arr.setIfInBounds d u) := by
  obtain ⟨y, hy⟩ := hd
  have hlt := (h.rel d y hy).1
  constructor
  · intro t a ha
    rw [ht] at ha
    by_cases e : t = d
    · subst e
      rw [if_pos rfl] at ha
      cases ha
      refine ⟨by simpa using hlt, ?_⟩
      rw [Array.getD_eq_getD_getElem?, Array.getElem?_setIfInBounds_self_of_lt hlt]
      exact hv
    · rw [if_neg e] at ha
      obtain ⟨h1, h2⟩ := h.rel t a ha
      refine ⟨by simpa using h1, ?_⟩
      rw [Array.getD_eq_getD_getElem?, Array.getElem?_setIfInBounds_ne (by omega), ← Array.getD_eq_getD_getElem?]
      exact h2
  · intro t a ha
    rw [ht] at ha
    by_cases e : t = d
    · rw [if_pos e] at ha; cases ha; exact hl
    · rw [if_neg e] at ha; exact h.live t a ha

/-- The temporaries behind an operation's result. -/
def SetD (tm : Tr AV) (dst : Option Tmp) (v : AV) (tm' : Tr AV) : Prop :=
  match dst with
  | none => tm' = tm
  | some d => (∃ y, tm.get d = some y) ∧ ∀ j, tm'.get j = if j = d then some v else tm.get j

theorem finish_region {fr : Frame} {ops : Array Oper} {i : Nat} {rest : List Nat} {k : List Item} (ht : fr.todo = .inRegion ops (i :: rest) :: k) {o : Oper} (ho : ops[i]? = some o) (v : Value) :
    fr.finish v = { fr with tmps := (match o.dst with | some d => fr.tmps.setIfInBounds d v | none => fr.tmps), todo := .inRegion ops rest :: k } := by
  unfold Frame.finish
  rw [ht]
  simp only [ho, Option.bind_some]
  cases o.dst <;> rfl

theorem FrRel.finish {g : Gh} {w : World} {fr : Frame} {cs : List Frame} (h : FrRel g B w σ fr cs) {ops : Array Oper} {i : Nat} {rest : List Nat} {k : List Item}
    (ht : fr.todo = .inRegion ops (i :: rest) :: k) {o : Oper} (ho : ops[i]? = some o) {v : AV} {u : Value} (hv : VRel g w v u) (hl : Live σ.H.L v) {tm' : Tr AV} (hs : SetD σ.tm o.dst v tm') :
    FrRel g B w { σ with tm := tm' } (fr.finish u) cs := by
  rw [finish_region ht ho]
  refine ⟨h.h, ?_, h.df, ?_, h.rd⟩
  · cases hd : o.dst with
    | none =>
      rw [hd] at hs
      have hs : tm' = σ.tm := hs
      rw [hs]; exact h.tm
    | some d =>
      rw [hd] at hs
      exact h.tm.set hs.1 hs.2 hv hl
  · have := h.pm
    unfold PmRel at *
    split at this <;> simp_all

/-- An operation of a region, carried out in a frame. -/
def OpS (P : Program) (B : Nat) (ops : Array Oper) (i : Nat) (σ : St) (e : AEx) (σ' : St) : Prop :=
  ∀ g fr cs w rest k, FrRel g B w σ fr cs → fr.mode = .run → fr.todo = .inRegion ops (i :: rest) :: k →
    ∃ g' fr' cs' w', FrRel g' B w' σ' fr' cs' ∧ Out g B w σ.H g' w' σ'.H ∧ SameFr fr fr' ∧ CsOk σ.pm cs cs' ∧ ((∀ l, σ.pm ≠ .pan l) → ∀ l, σ'.pm ≠ .pan l) ∧
      (match e with
        | .normal => fr'.mode = .run ∧ fr'.todo = .inRegion ops rest :: k
        | .panic l => ∃ chain, fr'.mode = .panicking chain ∧ ChainRel g' w' σ'.H.L l chain
        | _ => False) ∧ Steps P (lone fr cs w) (lone fr' cs' w')

def guardM (ops : Array Oper) (tm : Tr AV) (o : Oper) : Option Bool :=
  match o.guard with
  | none => some true
  | some (j, want) => match ops[j]? with
    | some oj => match oj.dst with
      | some d => match tm.get d with
        | some (.bool b) => some (b == want)
        | some (.tup _) => some false
        | _ => none
      | none => none
    | none => none

def guardV (want : Bool) (x : AV) : Option Bool :=
  match x with
  | .bool b => some (@Bool.rec (fun _ => Bool) (@Bool.rec (fun _ => Bool) true false want) want b)
  | .tup _ => some false
  | _ => none

def guardJ (p : Nat × Bool) (ops : Array Oper) (tm : Tr AV) : Option Bool :=
  @Option.rec Oper (fun _ => Option Bool) none (fun oj => @Option.rec Tmp (fun _ => Option Bool) none (fun d => @Option.rec AV (fun _ => Option Bool) none (fun x => guardV p.2 x) (tm.get d)) oj.dst) (ops.toList[p.1]?)

/-- Is an operation wanted, by its guard? -/
def guardA (ops : Array Oper) (tm : Tr AV) (o : Oper) : Option Bool :=
  @Option.rec (Nat × Bool) (fun _ => Option Bool) (some true) (fun p => guardJ p ops tm) o.guard

theorem guardA_eq (ops : Array Oper) (tm : Tr AV) (o : Oper) : guardA ops tm o = guardM ops tm o := by
  unfold guardA guardM
  cases o.guard with
  | none => rfl
  | some p =>
    obtain ⟨j, want⟩ := p
    simp only [guardJ, Array.getElem?_toList]
    cases ops[j]? with
    | none => rfl
    | some oj =>
      simp only
      cases oj.dst with
      | none => rfl
      | some d =>
        simp only
        cases tm.get d with
        | none => rfl
        | some x =>
          simp only
          cases x <;> first
            | rfl
            | (rename_i b; cases b <;> cases want <;> rfl)

theorem guardA_ok {g : Gh} {w : World} {L : Nat → Prop} {ops : Array Oper} {tm : Tr AV} {arr : Array Value} (h : FRel g w L tm arr) {o : Oper} {b : Bool} (hg : guardA ops tm o = some b) :
    Region.wanted o (yielded ops arr) = b := by
  rw [guardA_eq] at hg
  unfold guardM at hg
  unfold Region.wanted
  split at hg
  · rename_i e
    simp only [Option.some.injEq] at hg
    rw [e, hg]
  · rename_i j want e
    rw [e]
    split at hg <;> try cases hg
    rename_i oj hoj
    split at hg <;> try cases hg
    rename_i d hd
    split at hg
    · rename_i b' hb
      cases hg
      obtain ⟨h1, h2⟩ := h.rel d _ hb
      simp only [VRel] at h2
      have h3 : arr[d]? = some (.bool b') := by
        rw [Array.getD_eq_getD_getElem?, Array.getElem?_eq_getElem h1] at h2
        simp only [Option.getD_some] at h2
        rw [Array.getElem?_eq_getElem h1, h2]
      simp [yielded, hoj, hd, h3]
    · rename_i l hb
      cases hg
      obtain ⟨h1, h2⟩ := h.rel d _ hb
      obtain ⟨vs, h2, _⟩ := h2
      have h3 : arr[d]? = some (.tuple vs) := by
        rw [Array.getD_eq_getD_getElem?, Array.getElem?_eq_getElem h1] at h2
        simp only [Option.getD_some] at h2
        rw [Array.getElem?_eq_getElem h1, h2]
      simp [yielded, hoj, hd, h3]
    · cases hg

theorem stepG_skip {fr : Frame} {cs : List Frame} {w : World} {ops : Array Oper} {i : Nat} {rest : List Nat} {k : List Item} {o : Oper} (hm : fr.mode = .run) (ht : fr.todo = .inRegion ops (i :: rest) :: k)
    (ho : ops[i]? = some o) (hw : Region.wanted o (yielded ops fr.tmps) = false) : Steps P (lone fr cs w) (lone (fr.finish undef) cs w) :=
  step_go (by simp [stepG, stepG.exec, hm, ht, ho, hw])

theorem stepG_oper {fr : Frame} {cs : List Frame} {w : World} {ops : Array Oper} {i : Nat} {rest : List Nat} {k : List Item} {o : Oper} (hm : fr.mode = .run) (ht : fr.todo = .inRegion ops (i :: rest) :: k)
    (ho : ops[i]? = some o) (hw : Region.wanted o (yielded ops fr.tmps) = true) (hd : fr.roundOf = none ∨ ∀ c, o.op ≠ .defer c) :
    stepG P true { frame := fr, callers := cs, status := .running, dying := none } w = stepG.apply P true fr cs none (execOp fr.eval o) w := by
  have h1 : fr.oper? = some o := by simp [Frame.oper?, ht, ho]
  simp only [stepG, hm, stepG.exec, ht, ho, Option.map_some, hw, Option.getD_some, if_true, stepG.oper, h1]
  rcases hd with hd | hd
  · simp [hd]
  · cases hr : fr.roundOf with
    | none => rfl
    | some l =>
      split
      · rename_i e1 e2
        exact absurd e2 (hd _)
      · rfl

theorem kind_region {fr : Frame} {ops : Array Oper} {l : List Nat} {k : List Item} (ht : fr.todo = .inRegion ops l :: k) :
    (match fr.todo with | .call _ true _ _ :: _ => CallKind.wrapped | _ => CallKind.normal) = .normal := by rw [ht]

theorem OpS.skip {ops : Array Oper} {i : Nat} {o : Oper} (ho : ops[i]? = some o) (hg : guardA ops σ.tm o = some false) {tm' : Tr AV} (hs : SetD σ.tm o.dst (.tup []) tm') : OpS P B ops i σ .normal { σ with tm := tm' } := by
  intro g fr cs w rest k hr hm ht
  have hu : VRel g w (.tup []) undef := by simp only [VRel]; exact ⟨#[], rfl, by simp [VRels]⟩
  refine ⟨g, fr.finish undef, cs, w, hr.finish ht ho hu trivial hs, Out.refl hr.h, ?_, CsOk.refl _ _ _ hr.pm, fun h => h, ?_, stepG_skip hm ht ho (guardA_ok hr.tm hg)⟩
  · rw [finish_region ht ho]; exact ⟨rfl, rfl, rfl⟩
  · rw [finish_region ht ho]; exact ⟨hm, rfl⟩

theorem opCtx (hT : TOK P T) (hF : FOK P F) {g : Gh} {w : World} {fr : Frame} {cs : List Frame} (hr : FrRel g B w σ fr cs) {s : Nat} (hs : σ.H.o s = .hole) :
    OCtx P T F g B w σ.H s (aev σ.tm) fr.eval :=
  ⟨hT, hF, hr.h, hs, fun x => by
    have := hr.tm.ev (a := { tmps := fr.tmps, defers := fr.defers }) x
    cases x <;> exact this, fun x => hr.tm.evl x⟩

theorem isDefer_of {o : Oper} {s : Nat} {ho : Nat → AObj} {r : PRes} {R : List Nat} {W : WL} {ev : Operand → AV} (h : EvF s (pOp P T F X ev o) ho r R W) (hr : ∀ f args, r ≠ .defr f args) : ∀ c, o.op ≠ .defer c := by
  intro c hc
  rw [pOp_eq] at h
  unfold pOpM at h
  rw [hc] at h
  simp only at h
  split at h
  · unfold pDefer at h
    split at h <;> try exact h.elim
    split at h <;> try exact h.elim
    exact hr _ _ h.1
  · exact h.elim

/-- An operation that yields a value. -/
theorem OpS.val (hT : TOK P T) (hF : FOK P F) (hX : XOK P X) {ops : Array Oper} {i s : Nat} {o : Oper} (ho : ops[i]? = some o) (hg : guardA ops σ.tm o = some true) (hsl : σ.H.o s = .hole) {v : AV} {R : List Nat} {W : WL}
    (hev : EvF s (pOp P T F X (aev σ.tm) o) σ.H.o (.val v) R W) {tm' : Tr AV} (hs : SetD σ.tm o.dst v tm') : OpS P B ops i σ .normal { σ with tm := tm', H := σ.H.app W } := by
  intro g fr cs w rest k hr hm ht
  obtain ⟨u, g', w', h1, h2, h3, h4⟩ := pOp_ok (opCtx hT hF hr hsl) hX hev
  have hst := stepG_oper (P := P) (cs := cs) (w := w) hm ht ho (guardA_ok hr.tm hg) (.inr (isDefer_of hev (by intro f args e; cases e)))
  have hr' := hr.out h2
  refine ⟨g', fr.finish u, cs, w', hr'.finish ht ho h3 h4 hs, h2, ?_, CsOk.refl _ _ _ hr.pm, fun h => h, ?_, step_go ?_⟩
  · rw [finish_region ht ho]; exact ⟨rfl, rfl, rfl⟩
  · rw [finish_region ht ho]; exact ⟨hm, rfl⟩
  · rw [hst]; simp [stepG.apply, h1]

/-- An operation that yields nothing. -/
theorem OpS.none (hT : TOK P T) (hF : FOK P F) (hX : XOK P X) {ops : Array Oper} {i s : Nat} {o : Oper} (ho : ops[i]? = some o) (hg : guardA ops σ.tm o = some true) (hsl : σ.H.o s = .hole) {R : List Nat} {W : WL}
    (hev : EvF s (pOp P T F X (aev σ.tm) o) σ.H.o .skip R W) {tm' : Tr AV} (hs : SetD σ.tm o.dst (.tup []) tm') : OpS P B ops i σ .normal { σ with tm := tm', H := σ.H.app W } := by
  intro g fr cs w rest k hr hm ht
  obtain ⟨g', w', h1, h2⟩ := pOp_ok (opCtx hT hF hr hsl) hX hev
  have hst := stepG_oper (P := P) (cs := cs) (w := w) hm ht ho (guardA_ok hr.tm hg) (.inr (isDefer_of hev (by intro f args e; cases e)))
  have hr' := hr.out h2
  have hu : VRel g' w' (.tup []) undef := by simp only [VRel]; exact ⟨#[], rfl, by simp [VRels]⟩
  refine ⟨g', fr.finish undef, cs, w', hr'.finish ht ho hu trivial hs, h2, ?_, CsOk.refl _ _ _ hr.pm, fun h => h, ?_, step_go ?_⟩
  · rw [finish_region ht ho]; exact ⟨rfl, rfl, rfl⟩
  · rw [finish_region ht ho]; exact ⟨hm, rfl⟩
  · rw [hst]; simp [stepG.apply, h1]

/-- A call that returns. -/
theorem OpS.call (hT : TOK P T) (hF : FOK P F) (hX : XOK P X) {ops : Array Oper} {i s : Nat} {o : Oper} (ho : ops[i]? = some o) (hg : guardA ops σ.tm o = some true) (hsl : σ.H.o s = .hole) {f : FuncId} {args : List AV} {R : List Nat} {W : WL}
    (hev : EvF s (pOp P T F X (aev σ.tm) o) σ.H.o (.call f args) R W) {v : AV} {H' : AH} (hc : CSem P B f args σ.H (.ret v) H') {tm' : Tr AV} (hs : SetD σ.tm o.dst v tm') :
    OpS P B ops i σ .normal { σ with tm := tm', H := H' } := by
  intro g fr cs w rest k hr hm ht
  obtain ⟨rfl, vs, h1, h2, h3⟩ := pOp_ok (opCtx hT hF hr hsl) hX hev
  have hst := stepG_oper (P := P) (cs := cs) (w := w) hm ht ho (guardA_ok hr.tm hg) (.inr (isDefer_of hev (by intro f args e; cases e)))
  obtain ⟨g', fr', w', k1, k2, k3, u, k4, k5, k6⟩ := hc g vs (fr :: cs) w hr.h h2 h3
  have hr' := hr.out k1
  refine ⟨g', fr.finish u, cs, w', hr'.finish ht ho k5 k6 hs, k1, ?_, CsOk.refl _ _ _ hr.pm, fun h => h, ?_, ?_⟩
  · rw [finish_region ht ho]; exact ⟨rfl, rfl, rfl⟩
  · rw [finish_region ht ho]; exact ⟨hm, rfl⟩
  · refine Steps.trans (step_go (fr' := Frame.enter P f vs .normal) (cs' := fr :: cs) (w' := w) ?_) (Steps.trans k2 (.one (step_leave_returned k4)))
    rw [hst]; simp [stepG.apply, h1, ht]

/-- A call that panics. -/
theorem OpS.callPanic (hT : TOK P T) (hF : FOK P F) (hX : XOK P X) {ops : Array Oper} {i s : Nat} {o : Oper} (ho : ops[i]? = some o) (hg : guardA ops σ.tm o = some true) (hsl : σ.H.o s = .hole) {f : FuncId} {args : List AV} {R : List Nat} {W : WL}
    (hev : EvF s (pOp P T F X (aev σ.tm) o) σ.H.o (.call f args) R W) {l : List (AV × Bool)} {H' : AH} (hc : CSem P B f args σ.H (.panic l) H') :
    OpS P B ops i σ (.panic l) { σ with H := H' } := by
  intro g fr cs w rest k hr hm ht
  obtain ⟨rfl, vs, h1, h2, h3⟩ := pOp_ok (opCtx hT hF hr hsl) hX hev
  have hst := stepG_oper (P := P) (cs := cs) (w := w) hm ht ho (guardA_ok hr.tm hg) (.inr (isDefer_of hev (by intro f args e; cases e)))
  obtain ⟨g', fr', w', k1, k2, k3, chain, k4, k5⟩ := hc g vs (fr :: cs) w hr.h h2 h3
  have hr' := hr.out k1
  have hraise : fr.raise chain = { fr with mode := .panicking chain } := by simp [Frame.raise, hm]
  refine ⟨g', fr.raise chain, cs, w', by rw [hraise]; exact hr'.mode _, k1, by rw [hraise]; exact ⟨rfl, rfl, rfl⟩, CsOk.refl _ _ _ hr.pm, fun h => h, ⟨chain, by rw [hraise], k5⟩, ?_⟩
  refine Steps.trans (step_go (fr' := Frame.enter P f vs .normal) (cs' := fr :: cs) (w' := w) ?_) (Steps.trans k2 (.one (step_leave_panicked k4)))
  rw [hst]; simp [stepG.apply, h1, ht]

/-- A panic of the operation's own. -/
theorem OpS.panic (hT : TOK P T) (hF : FOK P F) (hX : XOK P X) {ops : Array Oper} {i s : Nat} {o : Oper} (ho : ops[i]? = some o) (hg : guardA ops σ.tm o = some true) (hsl : σ.H.o s = .hole) {v : AV} {R : List Nat} {W : WL}
    (hev : EvF s (pOp P T F X (aev σ.tm) o) σ.H.o (.panic v) R W) : OpS P B ops i σ (.panic [(v, false)]) σ := by
  intro g fr cs w rest k hr hm ht
  obtain ⟨rfl, u, h1, h2, h3⟩ := pOp_ok (opCtx hT hF hr hsl) hX hev
  have hst := stepG_oper (P := P) (cs := cs) (w := w) hm ht ho (guardA_ok hr.tm hg) (.inr (isDefer_of hev (by intro f args e; cases e)))
  have hraise : fr.raise [{ v := u, recovered := false }] = { fr with mode := .panicking [{ v := u, recovered := false }] } := by simp [Frame.raise, hm]
  refine ⟨g, fr.raise [{ v := u, recovered := false }], cs, w, by rw [hraise]; exact hr.mode _, Out.refl hr.h, by rw [hraise]; exact ⟨rfl, rfl, rfl⟩, CsOk.refl _ _ _ hr.pm, fun h => h,
    ⟨[{ v := u, recovered := false }], by rw [hraise], ?_⟩, ?_⟩
  · simp only [ChainRel]
    exact ⟨_, _, rfl, h2, h3, rfl, rfl, rfl⟩
  · refine step_go ?_
    rw [hst]; simp [stepG.apply, h1]

/-- A deferred call is kept. -/
theorem OpS.defr (hT : TOK P T) (hF : FOK P F) (hX : XOK P X) {ops : Array Oper} {i s : Nat} {o : Oper} (ho : ops[i]? = some o) (hg : guardA ops σ.tm o = some true) (hsl : σ.H.o s = .hole) (hrd : σ.rd = false) {f : FuncId} {args : List AV} {R : List Nat} {W : WL}
    (hev : EvF s (pOp P T F X (aev σ.tm) o) σ.H.o (.defr f args) R W) {tm' : Tr AV} (hs : SetD σ.tm o.dst (.tup []) tm') : OpS P B ops i σ .normal { σ with tm := tm', df := .call f args :: σ.df } := by
  intro g fr cs w rest k hr hm ht
  obtain ⟨rfl, d, h1, h2, h3⟩ := pOp_ok (opCtx hT hF hr hsl) hX hev
  have hst := stepG_oper (P := P) (cs := cs) (w := w) hm ht ho (guardA_ok hr.tm hg) (.inl (hr.rd hrd))
  have hr' : FrRel g B w { σ with df := .call f args :: σ.df } { fr with defers := d :: fr.defers } cs := ⟨hr.h, hr.tm, ⟨d, _, rfl, h2, h3, hr.df⟩, by
    have := hr.pm
    unfold PmRel at *
    split at this <;> simp_all, hr.rd⟩
  have ht' : ({ fr with defers := d :: fr.defers } : Frame).todo = .inRegion ops (i :: rest) :: k := ht
  have hu : VRel g w (.tup []) undef := by simp only [VRel]; exact ⟨#[], rfl, by simp [VRels]⟩
  refine ⟨g, ({ fr with defers := d :: fr.defers } : Frame).finish undef, cs, w, hr'.finish ht' ho hu trivial hs, Out.refl hr.h, ?_, CsOk.refl _ _ _ hr.pm, fun h => h, ?_, step_go ?_⟩
  · rw [finish_region ht' ho]; exact ⟨rfl, rfl, rfl⟩
  · rw [finish_region ht' ho]; exact ⟨hm, rfl⟩
  · rw [hst]; simp [stepG.apply, h1]

/-- A region's operations, one after another. -/
theorem SemT.region_nil {ops : Array Oper} : SemT P B [.inRegion ops []] σ .normal σ :=
  SemT.idle fun _ fr cs w k _ hm ht => step_go (by
    simp only [List.cons_append, List.nil_append] at ht
    simp [stepG, stepG.exec, hm, ht])

theorem SemT.region_cons {ops : Array Oper} {i : Nat} {rest : List Nat} (h : OpS P B ops i σ .normal σ1) (k : SemT P B [.inRegion ops rest] σ1 e σ') : SemT P B [.inRegion ops (i :: rest)] σ e σ' := by
  intro g fr cs w kk hr hm ht hro k' hk
  obtain ⟨g1, fr1, cs1, w1, h1, h2, h3, h4, h5, h6, h7⟩ := h g fr cs w rest kk hr hm (by simpa using ht)
  obtain ⟨g2, fr2, cs2, w2, f1, f2, f3, f4, f5, f6, f7⟩ := k g1 fr1 cs1 w1 kk h1 h6.1 (by simpa using h6.2) (fun e => h3.round.trans (hro e)) k' hk
  exact ⟨g2, fr2, cs2, w2, f1, h2.trans f2, h3.trans f3, h4.trans f4 h5, fun hp => f5 (h5 hp), f6, h7.trans f7⟩

theorem SemT.region_panic {ops : Array Oper} {i : Nat} {rest : List Nat} {l : List (AV × Bool)} (h : OpS P B ops i σ (.panic l) σ') : SemT P B [.inRegion ops (i :: rest)] σ (.panic l) σ' := by
  intro g fr cs w kk hr hm ht hro k' hk
  obtain ⟨g1, fr1, cs1, w1, h1, h2, h3, h4, h5, h6, h7⟩ := h g fr cs w rest kk hr hm (by simpa using ht)
  exact ⟨g1, fr1, cs1, w1, h1, h2, h3, h4, h5, h6, h7⟩

theorem Sem.region {id : Nat} {ops : Array Oper} (h : SemT P B [.inRegion ops (List.range ops.size)] σ e σ') : Sem P B (.region id ops false) σ e σ' :=
  SemT.ahead (its' := [.inRegion ops (List.range ops.size)]) h (fun _ => rfl) fun _ fr cs w k _ hm ht => step_go (by
    simp only [List.cons_append, List.nil_append] at ht
    simp [stepG, stepG.exec, hm, ht])

end
end
end Go.Abs
