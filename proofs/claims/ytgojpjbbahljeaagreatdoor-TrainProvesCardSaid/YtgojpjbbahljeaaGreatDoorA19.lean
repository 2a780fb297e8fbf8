/-
  Functions: their bodies, deferred calls, results.
-/
import Derived.Test.YtgojpjbbahljeaaGreatDoorA18
/-! Functions: their bodies, deferred calls, results. -/
namespace Go.Abs
open Go
noncomputable section

section
variable {P : Program} {B : Nat} {σ σ1 σ' : St} {T : Tr TypeInfo} {F : Tr Func} {X : XT}

theorem pLoad_run (hT : TOK P T) {g : Gh} {w : World} {H : AH} (hr : HRel g B w H) {s : Nat} {t : TypeId} {av v : AV} {u : Value} {R : List Nat} {W : WL} (h : EvF s (pLoad T t av) H.o (.val v) R W)
    (hu : VRel g w av u) (hl : Live H.L av) : ∃ a x, u = .pointer (some a) ∧ (loadVar t a).run P w = .ok x w ∧ VRel g w v x ∧ Live H.L v := by
  unfold pLoad at h
  split at h
  · rename_i hag
    have hag' := aggT_ok hT hag w
    split at h <;> try exact h.elim
    rename_i i hi
    have hsz := run_sizeOf_ok hT hi w
    split at h
    · rename_i o off
      simp only [VRel] at hu
      obtain ⟨R', _, h⟩ := h
      simp only at h
      split at h <;> try exact h.elim
      rename_i tr n ty ho
      obtain ⟨hb, h⟩ := h
      split at h <;> try exact h.elim
      rename_i l hln
      obtain ⟨e, _⟩ := evF_ret h
      cases e
      obtain ⟨h1, h2⟩ := loadN_ok hln
      obtain ⟨cs, e1, e2, e3, e4⟩ := hr.cellsAt ho (by simpa using hb) h1 h2
      have := run_loadCells_list (P := P) w ⟨g.ob o, off, none⟩ cs e2
      rw [e1] at this
      refine ⟨_, .agg cs.toArray, hu, by simp [loadVar, hag', hsz, this], ?_, e4⟩
      simp only [VRel]
      exact ⟨_, rfl, by simpa using e3⟩
    · rename_i xs off
      simp only [VRel] at hu
      obtain ⟨b, o0, hv, hb, hrr⟩ := hu
      split at h <;> try exact h.elim
      rename_i l hln
      obtain ⟨e, _⟩ := evF_ret h
      cases e
      obtain ⟨h1, h2⟩ := takeN_eq hln
      rw [dropN_eq] at h1
      obtain ⟨cs, e1, e2, e3⟩ := hrr.piece h1 h2
      have := run_loadCells_list (P := P) w ⟨b, o0 + off, none⟩ cs e2
      rw [e1] at this
      refine ⟨_, .agg cs.toArray, hv, by simp [loadVar, hag', hsz, this], ?_, ?_⟩
      · simp only [VRel]
        exact ⟨_, rfl, by simpa using e3⟩
      · rw [h1]
        exact (Lives.drop hl off).take _
    · exact h.elim
  · rename_i hag
    have hag' := aggT_ok hT hag w
    split at h
    · rename_i o off
      simp only [VRel] at hu
      obtain ⟨R', _, h⟩ := h
      simp only at h
      split at h <;> try exact h.elim
      rename_i tr n ty ho
      obtain ⟨hb, h⟩ := h
      split at h <;> try exact h.elim
      rename_i a ha
      obtain ⟨e, _⟩ := evF_ret h
      cases e
      obtain ⟨a', x, e1, e2, e3, e4⟩ := hr.cellAt ho (j := off) (by simpa using hb)
      rw [ha] at e1
      injection e1 with e1
      subst e1
      exact ⟨_, x, hu, by simp [loadVar, hag', e2], e3, e4⟩
    · rename_i xs off
      simp only [VRel] at hu
      obtain ⟨b, o0, hv, hb, hrr⟩ := hu
      split at h <;> try exact h.elim
      rename_i a ha
      obtain ⟨e, _⟩ := evF_ret h
      cases e
      rw [nth_eq] at ha
      obtain ⟨x, e2, e3⟩ := hrr.get xs o0 off v ha
      exact ⟨_, x, hv, by simp [loadVar, hag', e2], e3, Lives.mem xs v hl (List.mem_of_getElem? ha)⟩
    · exact h.elim
  · exact h.elim

def oneRes (arr : Array Value) : ResultVar → Go.Sem Value
  | .tmp t => pure (arr.getD t undef)
  | .cell a t => do loadVar t (← asAddr (arr.getD a undef))

theorem results_eq (fn : Func) (arr : Array Value) : Go.results fn arr = (fn.results.mapM (oneRes arr)) >>= fun vs => pure (if h : vs.size = 1 then vs[0] else .tuple vs) := by
  unfold Go.results
  congr 1

/-- The values of the result variables. -/
def ResV (T : Tr TypeInfo) (tm : Tr AV) (o : Nat → AObj) : List ResultVar → List AV → Prop
  | [], vs => vs = []
  | .tmp t :: rs, vs => ∃ vs', vs = aev tm (.tmp t) :: vs' ∧ ResV T tm o rs vs'
  | .cell a t :: rs, vs => ∃ v vs' R W, vs = v :: vs' ∧ EvF 0 (pLoad T t (aev tm (.tmp a))) o (.val v) R W ∧ ResV T tm o rs vs'

def oneOrTup : List AV → AV
  | [v] => v
  | vs => .tup vs

theorem ResV.run (hT : TOK P T) {g : Gh} {w : World} {H : AH} (hr : HRel g B w H) {tm : Tr AV} {arr : Array Value} (hf : FRel g w H.L tm arr) : ∀ (rs : List ResultVar) (vs : List AV), ResV T tm H.o rs vs →
    ∃ us, (rs.mapM (oneRes arr)).run P w = .ok us w ∧ VRels g w vs us ∧ Lives H.L vs
  | [], vs, h => by
    simp only [ResV] at h
    subst h
    exact ⟨[], by simp, by simp [VRels], trivial⟩
  | .tmp t :: rs, vs, h => by
    obtain ⟨vs', e, h⟩ := h
    subst e
    obtain ⟨us, h1, h2, h3⟩ := ResV.run hT hr hf rs vs' h
    have hv := hf.ev (a := { tmps := arr, defers := [] }) (.tmp t)
    refine ⟨arr.getD t undef :: us, ?_, ?_, hf.evl _, h3⟩
    · rw [List.mapM_cons]
      simp only [oneRes, Go.Sem.run_bind, Go.Sem.run_pure, Result.andThen_ok, h1]
    · simp only [VRels]
      exact ⟨_, _, rfl, hv, h2⟩
  | .cell a t :: rs, vs, h => by
    obtain ⟨v, vs', R, W, e, hl, h⟩ := h
    subst e
    obtain ⟨us, h1, h2, h3⟩ := ResV.run hT hr hf rs vs' h
    have hv := hf.ev (a := { tmps := arr, defers := [] }) (.tmp a)
    obtain ⟨ad, x, e1, e2, e3, e4⟩ := pLoad_run hT hr hl hv (hf.evl _)
    have e1 : arr.getD a undef = .pointer (some ad) := e1
    refine ⟨x :: us, ?_, ?_, e4, h3⟩
    · rw [List.mapM_cons]
      have : (oneRes arr (.cell a t)).run P w = .ok x w := by
        simp only [oneRes, e1, asAddr, Go.Sem.run_bind, Go.Sem.run_pure, Result.andThen_ok, e2]
      simp only [Go.Sem.run_bind, this, Go.Sem.run_pure, Result.andThen_ok, h1]
    · simp only [VRels]
      exact ⟨_, _, rfl, e3, h2⟩

theorem ResV.results (hT : TOK P T) {g : Gh} {w : World} {H : AH} (hr : HRel g B w H) {tm : Tr AV} {arr : Array Value} (hf : FRel g w H.L tm arr) {fn : Func} {vs : List AV} (h : ResV T tm H.o fn.results.toList vs) :
    ∃ u, (Go.results fn arr).run P w = .ok u w ∧ VRel g w (oneOrTup vs) u ∧ Live H.L (oneOrTup vs) := by
  obtain ⟨us, h1, h2, h3⟩ := ResV.run hT hr hf _ _ h
  have hrun : (fn.results.mapM (oneRes arr)).run P w = .ok us.toArray w := by
    rw [Array.mapM_eq_mapM_toList]
    have : ∀ (m : Go.Sem (List Value)), m.run P w = .ok us w → (List.toArray <$> m).run P w = .ok us.toArray w := fun m hm => by
      show (Go.Sem.bind m fun l => Go.Sem.pure l.toArray).run P w = _
      have hb := Go.Sem.run_bind (P := P) (w := w) m (fun l => Go.Sem.pure l.toArray)
      exact hb.trans (by rw [hm]; rfl)
    exact this _ h1
  have hlen := h2.length
  rw [results_eq]
  simp only [Go.Sem.run_bind]
  rw [hrun]
  simp only [Result.andThen_ok, Go.Sem.run_pure]
  cases vs with
  | nil =>
    simp only [VRels] at h2
    subst h2
    refine ⟨.tuple #[], by simp, ?_, h3⟩
    simp only [oneOrTup, VRel]
    exact ⟨_, rfl, by simp [VRels]⟩
  | cons v vs =>
    cases vs with
    | nil =>
      obtain ⟨u, us', e, k1, k2⟩ := h2
      simp only [VRels] at k2
      subst k2; subst e
      exact ⟨u, by simp, k1, h3.1⟩
    | cons v' vs =>
      refine ⟨.tuple us.toArray, ?_, ?_, h3⟩
      · have : ¬ us.toArray.size = 1 := by simp [hlen]
        simp [hlen]
      · simp only [oneOrTup, VRel]
        exact ⟨_, rfl, by simpa using h2⟩

/-! ### Deferred calls -/

inductive UMode where
  | ret
  | pan (l : List (AV × Bool))

def UmOk (g : Gh) (w : World) (L : Nat → Prop) (um : UMode) (m : FrameMode) : Prop :=
  match um with
  | .ret => m = .returning
  | .pan l => ∃ chain, m = .panicking chain ∧ ChainRel g w L l chain

def LeaveOk (P : Program) (g : Gh) (w : World) (L : Nat → Prop) (e : AEnd) (fr : Frame) : Prop :=
  fr.defers = [] ∧ match e with
    | .ret v => fr.mode = .returning ∧ ∃ fn u, P.funcs[fr.fn]? = some fn ∧ (results fn fr.tmps).run P w = .ok u w ∧ VRel g w v u ∧ Live L v
    | .panic l => ∃ chain, fr.mode = .panicking chain ∧ ChainRel g w L l chain ∧ ∃ fn, P.funcs[fr.fn]? = some fn

/-- A function, entered as a call or as a deferred one, ends so. -/
def FSem (P : Program) (B : Nat) (f : FuncId) (κ : CallKind) (args : List AV) (pm : APm) (H : AH) (e : AEnd) (pm' : APm) (H' : AH) : Prop :=
  ∀ g vs cs w, HRel g B w H → VRels g w args vs.toList → Lives H.L args → PmRel g w H.L pm (Frame.enter P f vs κ) cs →
    ∃ g' fr' cs' w', Out g B w H g' w' H' ∧ Steps P (lone (Frame.enter P f vs κ) cs w) (lone fr' cs' w') ∧ fr'.fn = f ∧ fr'.kind = κ ∧ CsOk pm cs cs' ∧
      PmRel g' w' H'.L pm' fr' cs' ∧ LeaveOk P g' w' H'.L e fr'

/-- A frame that unwinds ends so. -/
def USem (P : Program) (B : Nat) (f : FuncId) (um : UMode) (σ : St) (e : AEnd) (pm' : APm) (H' : AH) : Prop :=
  ∀ g fr cs w, FrRel g B w σ fr cs → fr.fn = f → UmOk g w σ.H.L um fr.mode →
    ∃ g' fr' cs' w', Out g B w σ.H g' w' H' ∧ Steps P (lone fr cs w) (lone fr' cs' w') ∧ SameFr fr fr' ∧ CsOk σ.pm cs cs' ∧ PmRel g' w' H'.L pm' fr' cs' ∧ LeaveOk P g' w' H'.L e fr'

theorem UmOk.ext {L L' : Nat → Prop} {g g' : Gh} {w w' : World} (hx : Ext L g w g' w') (hl : ∀ i, L i → L' i) {um : UMode} {m : FrameMode} (h : UmOk g w L um m) : UmOk g' w' L' um m := by
  cases um with
  | ret => exact h
  | pan l =>
    obtain ⟨chain, h1, h2⟩ := h
    exact ⟨chain, h1, h2.ext hx hl⟩

theorem USem.done_ret (hT : TOK P T) {f : FuncId} {fn : Func} (hf : P.funcs[f]? = some fn) {vs : List AV} (hdf : σ.df = []) (hres : ResV T σ.tm σ.H.o fn.results.toList vs) :
    USem P B f .ret σ (.ret (oneOrTup vs)) σ.pm σ.H := by
  intro g fr cs w hr hfn hm
  obtain ⟨u, h1, h2, h3⟩ := hres.results hT hr.h hr.tm
  have hd := hr.df
  rw [hdf] at hd
  exact ⟨g, fr, cs, w, Out.refl hr.h, Steps.refl _ _, ⟨rfl, rfl, rfl⟩, CsOk.refl _ _ _ hr.pm, hr.pm, hd, hm, fn, u, by rw [hfn]; exact hf, h1, h2, h3⟩

theorem USem.done_pan {f : FuncId} {fn : Func} (hf : P.funcs[f]? = some fn) {l : List (AV × Bool)} (hdf : σ.df = []) : USem P B f (.pan l) σ (.panic l) σ.pm σ.H := by
  intro g fr cs w hr hfn hm
  obtain ⟨chain, h1, h2⟩ := hm
  have hd := hr.df
  rw [hdf] at hd
  exact ⟨g, fr, cs, w, Out.refl hr.h, Steps.refl _ _, ⟨rfl, rfl, rfl⟩, CsOk.refl _ _ _ hr.pm, hr.pm, hd, chain, h1, h2, fn, by rw [hfn]; exact hf⟩

/-- How the caller goes on, behind a deferred call that returned. -/
def settleA : APm → UMode
  | .no => .ret
  | .ret => .ret
  | .pan l => match l with
    | [] => .pan []
    | (v, b) :: r => match b with
      | true => .ret
      | false => .pan ((v, false) :: r)

def raisedA (l : List (AV × Bool)) : APm → UMode
  | .pan l' => .pan (l ++ l')
  | _ => .pan l

def pmOf : UMode → APm
  | .ret => .ret
  | .pan l => .pan l

theorem ChainRel.noGoexit {g : Gh} {w : World} {L : Nat → Prop} : ∀ {l : List (AV × Bool)} {es : List PanicEntry}, ChainRel g w L l es → es.dropWhile (!·.goexit) = []
  | [], es, h => by simp only [ChainRel] at h; subst h; rfl
  | (_, _) :: _, es, h => by
    obtain ⟨e, es', e1, _, _, _, h4, h5⟩ := h
    subst e1
    simp [h4, ChainRel.noGoexit h5]

theorem settle_ok {g : Gh} {w : World} {L : Nat → Prop} {l : List (AV × Bool)} {chain : List PanicEntry} (h : ChainRel g w L l chain) : UmOk g w L (settleA (.pan l)) (settle (.panicking chain)) := by
  cases l with
  | nil =>
    have h' := h
    simp only [ChainRel] at h
    subst h
    exact ⟨[], rfl, h'⟩
  | cons p r =>
    obtain ⟨v, b⟩ := p
    have h' := h
    obtain ⟨e, es', e1, h1, h2, h3, h4, h5⟩ := h
    subst e1
    cases b with
    | true =>
      show settle (.panicking (e :: es')) = .returning
      unfold settle
      obtain ⟨ev, er, eg⟩ := e
      simp only at h3
      subst h3
      have := h5.noGoexit
      simp only [this]
    | false =>
      refine ⟨e :: es', ?_, h'⟩
      unfold settle
      obtain ⟨ev, er, eg⟩ := e
      simp only at h3
      subst h3
      rfl

theorem ChainRel.append {g : Gh} {w : World} {L : Nat → Prop} : ∀ {l l' : List (AV × Bool)} {es es' : List PanicEntry}, ChainRel g w L l es → ChainRel g w L l' es' → ChainRel g w L (l ++ l') (es ++ es')
  | [], _, _, _, h, k => by simp only [ChainRel] at h; subst h; simpa using k
  | (_, _) :: _, _, _, _, h, k => by
    obtain ⟨e, es', e1, h1, h2, h3, h4, h5⟩ := h
    subst e1
    simp only [List.cons_append, ChainRel]
    exact ⟨e, _, rfl, h1, h2, h3, h4, ChainRel.append h5 k⟩

theorem callFunc_enter (hF : FOK P F) {f : FuncId} {fn : Func} (hf : F.get f = some fn) {c : Code} (hb : fn.body = some c) (args : Array Value) (w : World) : (callFunc f args).run P w = .ok (.enter f args) w := by
  obtain ⟨h1, h2⟩ := hF f fn hf
  simp only [callFunc, Sem.run_bind, run_program, Result.andThen_ok, h1, h2, Bool.false_eq_true, if_false, hb, Option.isNone_some, Sem.run_pure]

/-- A deferred call, then the rest. -/
theorem USem.call (hF : FOK P F) {f d : FuncId} {um um' : UMode} {dfn : Func} {c : Code} (hd : F.get d = some dfn) (hb : dfn.body = some c) {args : List AV} {df : List ADf} (hdf : σ.df = .call d args :: df) {e : AEnd} {pm1 : APm} {H1 : AH}
    (hcall : FSem P B d .deferred args (pmOf um) σ.H e pm1 H1) (hpm1 : match um with | .ret => pm1 = .ret | .pan _ => ∃ l, pm1 = .pan l)
    (hum : um' = match e with | .ret _ => settleA pm1 | .panic l => raisedA l pm1) {e' : AEnd} {pm' : APm} {H' : AH}
    (hrest : USem P B f um' { σ with df := df, H := H1 } e' pm' H') : USem P B f um σ e' pm' H' := by
  intro g fr cs w hr hfn hm
  have hdr := hr.df
  rw [hdf] at hdr
  obtain ⟨dd, ds, e1, ⟨cap, as, e2, h1⟩, h2, h3⟩ := hdr
  have hmode : fr.mode ≠ .run := by
    cases um with
    | ret => have : fr.mode = .returning := hm; rw [this]; simp
    | pan l => obtain ⟨chain, hc, _⟩ := hm; rw [hc]; simp
  have hinv : (invoke dd.target dd.args).run P w = .ok (.enter d (as ++ cap)) w := by
    rw [e2]; exact callFunc_enter hF hd hb _ w
  have hst := step_defer (cs := cs) hmode e1 (by rw [e2]) hinv
  have hpm : PmRel g w σ.H.L (pmOf um) (Frame.enter P d (as ++ cap) .deferred) ({ fr with defers := ds } :: cs) := by
    cases um with
    | ret => exact ⟨rfl, rfl, _, _, rfl, hm⟩
    | pan l => obtain ⟨chain, hc, hcr⟩ := hm; exact ⟨rfl, rfl, _, _, chain, rfl, hc, hcr⟩
  obtain ⟨g1, fr1, cs1, w1, k1, k2, k3, k4, k5, k6, k7, k8⟩ := hcall g (as ++ cap) ({ fr with defers := ds } :: cs) w hr.h h1 h2 hpm
  -- the caller's frame behind the call
  obtain ⟨m1, hcs1, hm1⟩ : ∃ m1, cs1 = { ({ fr with defers := ds } : Frame) with mode := m1 } :: cs ∧ match pm1 with | .pan l => ∃ chain, m1 = .panicking chain ∧ ChainRel g1 w1 H1.L l chain | _ => m1 = .returning := by
    cases um with
    | ret =>
      have hp : pm1 = .ret := hpm1
      subst hp
      have k5 : cs1 = _ := k5
      exact ⟨fr.mode, k5, hm⟩
    | pan l =>
      obtain ⟨l1, hp⟩ := hpm1
      subst hp
      obtain ⟨c0, rest, m, q1, q2⟩ := k5
      injection q1 with q3 q4
      subst q3; subst q4
      obtain ⟨_, _, c1, rest1, chain, q5, q6, q7⟩ := k6
      rw [q2] at q5
      injection q5 with q8 q9
      subst q8
      exact ⟨m, q2, chain, q6, q7⟩
  subst hcs1
  have hfr : ∀ m : FrameMode, FrRel g1 B w1 { σ with df := df, H := H1 } { ({ fr with defers := ds } : Frame) with mode := m } cs := fun m =>
    ⟨k1.rel, hr.tm.ext k1.ext k1.L, h3.ext k1.ext k1.L, by
      have := hr.pm.ext k1.ext k1.L
      unfold PmRel at *
      split at this <;> simp_all, hr.rd⟩
  have finish : ∀ m : FrameMode, UmOk g1 w1 H1.L um' m → Steps P (lone fr1 ({ ({ fr with defers := ds } : Frame) with mode := m1 } :: cs) w1) (lone { ({ fr with defers := ds } : Frame) with mode := m } cs w1) →
      ∃ g' fr' cs' w', Out g B w σ.H g' w' H' ∧ Steps P (lone fr cs w) (lone fr' cs' w') ∧ SameFr fr fr' ∧ CsOk σ.pm cs cs' ∧ PmRel g' w' H'.L pm' fr' cs' ∧ LeaveOk P g' w' H'.L e' fr' := by
    intro m hum hs
    obtain ⟨g2, fr2, cs2, w2, q1, q2, q3, q4, q5, q6⟩ := hrest g1 _ cs w1 (hfr m) hfn hum
    exact ⟨g2, fr2, cs2, w2, k1.trans q1, .head hst (k2.trans (hs.trans q2)), ⟨q3.fn, q3.kind, q3.round⟩, q4, q5, q6⟩
  cases e with
  | ret v =>
    obtain ⟨k8, fn, u, k9, k10, _⟩ := k8
    have hgo : fr1.going P w1 (.returned u) := ⟨k8, k7, fn, k9, k10⟩
    have hstep := step_going_returned (c := { ({ fr with defers := ds } : Frame) with mode := m1 }) (cs := cs) k4 hgo
    refine finish (settle m1) ?_ (.one hstep)
    subst hum
    cases pm1 with
    | no =>
      have hm1 : m1 = .returning := hm1
      subst hm1; rfl
    | ret =>
      have hm1 : m1 = .returning := hm1
      subst hm1; rfl
    | pan l =>
      obtain ⟨chain, rfl, hcr⟩ := hm1
      exact settle_ok hcr
  | panic l =>
    obtain ⟨chain, k8, k9, fn, k10⟩ := k8
    have hgo : fr1.going P w1 (.panicked chain) := ⟨k8, k7, fn, k10⟩
    have hstep := step_going_panicked (c := { ({ fr with defers := ds } : Frame) with mode := m1 }) (cs := cs) hgo
    refine finish (raised m1 chain) ?_ (.one hstep)
    subst hum
    cases pm1 with
    | no =>
      have hm1 : m1 = .returning := hm1
      subst hm1; exact ⟨chain, rfl, k9⟩
    | ret =>
      have hm1 : m1 = .returning := hm1
      subst hm1; exact ⟨chain, rfl, k9⟩
    | pan l' =>
      obtain ⟨chain', rfl, hcr⟩ := hm1
      exact ⟨chain ++ chain', rfl, k9.append hcr⟩

/-- The mark of a loop over a function: no call is kept there. -/
theorem USem.mark {f : FuncId} {um : UMode} {o : Nat} {df : List ADf} (hdf : σ.df = .mark o :: df) (ho : σ.H.o o = .dfr false) {e' : AEnd} {pm' : APm} {H' : AH}
    (hrest : USem P B f um { σ with df := df, H := σ.H.put o (.dfr true) 0 } e' pm' H') : USem P B f um σ e' pm' H' := by
  intro g fr cs w hr hfn hm
  have hdr := hr.df
  rw [hdf] at hdr
  obtain ⟨ds, e1, h1, h2⟩ := hdr
  have hro := hr.h.rel o
  rw [ho] at hro
  obtain ⟨m1, m2⟩ := hro
  have hlt : g.ob o < w.heap.size := by
    have := (hr.h.ge o h1).2
    rw [ho] at this
    exact this
  have hout : Out g B w σ.H g { w with heap := w.heap.setIfInBounds (g.ob o) (.deferred none) } (σ.H.put o (.dfr true) 0) := by
    refine hr.h.setOb h1 (by rw [ho]; rfl) m2 (by simp) rfl 0 (by simp) (fun k hk => ?_) rfl rfl rfl ?_ trivial trivial
    · show (w.heap.setIfInBounds (g.ob o) _)[k]? = _
      rw [Array.getElem?_setIfInBounds_ne (by omega)]
    · intro _
      refine ⟨?_, m2⟩
      show (w.heap.setIfInBounds (g.ob o) _)[g.ob o]? = _
      rw [Array.getElem?_setIfInBounds_self_of_lt hlt]
      rfl
  have hr' : FrRel g B { w with heap := w.heap.setIfInBounds (g.ob o) (.deferred none) } { σ with df := df, H := σ.H.put o (.dfr true) 0 } { fr with defers := ds } cs :=
    ⟨hout.rel, hr.tm.ext hout.ext hout.L, h2.ext hout.ext hout.L, by
      have := hr.pm.ext hout.ext hout.L
      unfold PmRel at *
      split at this <;> simp_all, hr.rd⟩
  obtain ⟨g2, fr2, cs2, w2, q1, q2, q3, q4, q5, q6⟩ := hrest g { fr with defers := ds } cs _ hr' hfn (hm.ext hout.ext hout.L)
  refine ⟨g2, fr2, cs2, w2, hout.trans q1, (step_go ?_).trans q2, ⟨q3.fn, q3.kind, q3.round⟩, q4, q5, q6⟩
  have htake : (Instr.takeDeferred (g.ob o)).run P w = .ok [] { w with heap := w.heap.setIfInBounds (g.ob o) (.deferred none) } := by
    simp [Instr.takeDeferred, getObj, setObj, Sem.run, m1]
  have hmode : fr.mode ≠ .run := by
    cases um with
    | ret => have : fr.mode = .returning := hm; rw [this]; simp
    | pan l => obtain ⟨chain, hc, _⟩ := hm; rw [hc]; simp
  cases hmd : fr.mode with
  | run => exact absurd hmd hmode
  | returning => simp [stepG, unwind, hmd, e1, htake]
  | panicking chain => simp [stepG, unwind, hmd, e1, htake]

/-! ### Bodies -/

def InitTm (args : List AV) (n : Nat) (tm : Tr AV) : Prop := ∀ j, tm.get j = if j < args.length then args[j]? else if j < n then some .unk else none

theorem InitTm.rel {g : Gh} {w : World} {L : Nat → Prop} {args : List AV} {n : Nat} {tm : Tr AV} (h : InitTm args n tm) {vs : Array Value} (hv : VRels g w args vs.toList) (hl : Lives L args) (hn : args.length ≤ n) :
    FRel g w L tm (vs ++ Array.replicate (n - vs.size) undef) := by
  have hlen := hv.length
  have hvs : vs.size = args.length := by rw [← hlen]; simp
  constructor
  · intro t a ha
    rw [h] at ha
    split at ha
    · rename_i ht
      obtain ⟨v, h1, h2⟩ := hv.get _ _ ha
      refine ⟨by simp; omega, ?_⟩
      rw [Array.getD_eq_getD_getElem?, Array.getElem?_append_left (by omega)]
      rw [Array.getElem?_toList] at h1
      rw [h1]
      exact h2
    · split at ha
      · cases ha
        refine ⟨by simp; omega, trivial⟩
      · cases ha
  · intro t a ha
    rw [h] at ha
    split at ha
    · exact hl.mem _ _ (List.mem_of_getElem? ha)
    · split at ha
      · cases ha; trivial
      · cases ha

/-- A body, then the deferred calls. -/
theorem FSem.body (hF : FOK P F) {f : FuncId} {fn : Func} (hf : F.get f = some fn) {c : Code} (hb : fn.body = some c) {κ : CallKind} {args : List AV} {pm : APm} {H : AH} {tm : Tr AV} (hn : args.length ≤ fn.ntmps) (htm : InitTm args fn.ntmps tm)
    {ex : AEx} {um : UMode} (hex : match ex with | .normal => um = .ret | .ret => um = .ret | .panic l => um = .pan l | .exit _ => False)
    (hbody : Sem P B c { tm := tm, df := [], pm := pm, rd := false, H := H } ex σ1) (hpmk : (∀ l, pm ≠ .pan l) → ∀ l, σ1.pm ≠ .pan l) {e : AEnd} {pm' : APm} {H' : AH} (hu : USem P B f um σ1 e pm' H') (hpmk' : (∀ l, σ1.pm ≠ .pan l) → ∀ l, pm' ≠ .pan l) :
    FSem P B f κ args pm H e pm' H' := by
  intro g vs cs w hr hv hl hpm
  have _ := hpmk'
  obtain ⟨hf1, _⟩ := hF f fn hf
  have hlen := hv.length
  have henter : Frame.enter P f vs κ = { fn := f, tmps := vs ++ Array.replicate (fn.ntmps - vs.size) undef, todo := [.code c], defers := [], mode := .run, kind := κ } := by
    simp [Frame.enter, hf1, hb]
  rw [henter] at hpm ⊢
  generalize hfr : ({ fn := f, tmps := vs ++ Array.replicate (fn.ntmps - vs.size) undef, todo := [.code c], defers := [], mode := .run, kind := κ } : Frame) = fr at hpm ⊢
  have hrel : FrRel g B w { tm := tm, df := [], pm := pm, rd := false, H := H } fr cs := by
    refine ⟨hr, ?_, ?_, hpm, fun _ => ?_⟩
    · rw [← hfr]; exact htm.rel hv hl hn
    · rw [← hfr]; rfl
    · rw [← hfr]
  have hmode : fr.mode = .run := by rw [← hfr]
  have htodo : fr.todo = [.code c] ++ [] := by rw [← hfr]; rfl
  have hround : fr.roundOf = none := by rw [← hfr]
  have hfn : fr.fn = f := by rw [← hfr]
  have hkind : fr.kind = κ := by rw [← hfr]
  obtain ⟨k', hk'⟩ : ∃ k', tgt ex [] = some k' := by
    cases ex <;> first
      | exact ⟨_, rfl⟩
      | exact hex.elim
  obtain ⟨g1, fr1, cs1, w1, h1, h2, h3, h4, h5, h6, h7⟩ := hbody g fr cs w [] hrel hmode htodo (fun _ => hround) k' hk'
  have go : ∀ fr2 : Frame, SameFr fr fr2 → FrRel g1 B w1 σ1 fr2 cs1 → UmOk g1 w1 σ1.H.L um fr2.mode → Steps P (lone fr1 cs1 w1) (lone fr2 cs1 w1) →
      ∃ g' fr' cs' w', Out g B w H g' w' H' ∧ Steps P (lone fr cs w) (lone fr' cs' w') ∧ fr'.fn = f ∧ fr'.kind = κ ∧ CsOk pm cs cs' ∧ PmRel g' w' H'.L pm' fr' cs' ∧ LeaveOk P g' w' H'.L e fr' := by
    intro fr2 hsame hrel2 hum hs
    obtain ⟨g3, fr3, cs3, w3, q1, q2, q3, q4, q5, q6⟩ := hu g1 fr2 cs1 w1 hrel2 (hsame.fn.trans hfn) hum
    exact ⟨g3, fr3, cs3, w3, h2.trans q1, h7.trans (hs.trans q2), q3.fn.trans (hsame.fn.trans hfn), q3.kind.trans (hsame.kind.trans hkind), h4.trans q4 hpmk, q5, q6⟩
  cases ex with
  | normal =>
    subst hex
    obtain ⟨h8, h9⟩ := h6
    simp only [tgt, Option.some.injEq] at hk'
    subst hk'
    refine go { fr1 with mode := .returning } ⟨h3.fn, h3.kind, h3.round⟩ (h1.mode _) rfl (step_go ?_)
    have hro : fr1.roundOf = none := h3.round.trans hround
    simp [stepG, stepG.exec, h8, h9, hro]
  | ret =>
    subst hex
    exact go fr1 h3 h1 h6 (Steps.refl _ _)
  | panic l =>
    subst hex
    exact go fr1 h3 h1 h6 (Steps.refl _ _)
  | exit id => exact hex.elim

/-- A call proper. -/
theorem CSem.of_F {f : FuncId} {args : List AV} {H H' : AH} {e : AEnd} {pm' : APm} (h : FSem P B f .normal args .no H e pm' H') : CSem P B f args H e H' := by
  intro g vs cs w hr hv hl
  obtain ⟨g', fr', cs', w', h1, h2, h3, h4, h5, h6, h7, h8⟩ := h g vs cs w hr hv hl trivial
  have h5 : cs' = cs := h5
  subst h5
  refine ⟨g', fr', w', h1, h2, h3, ?_⟩
  cases e with
  | ret v =>
    obtain ⟨k1, fn, u, k2, k3, k4, k5⟩ := h8
    exact ⟨u, ⟨k1, h7, h4, fn, k2, k3⟩, k4, k5⟩
  | panic l =>
    obtain ⟨chain, k1, k2, fn, k3⟩ := h8
    exact ⟨chain, ⟨k1, h7, fn, k3⟩, k2⟩

end
end
end Go.Abs
