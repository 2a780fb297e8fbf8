/-
  Frames, and the rules of control.
-/
import Derived.Test.YtgojpjbbahljeaaGreatDoorA16
import Derived.Defers
/-! Frames, and the rules of control. -/
namespace Go.Abs
open Go
noncomputable section

inductive ADf where
  | call (f : FuncId) (args : List AV)
  | mark (o : Nat)

/-- How the caller of a deferred call goes: not known, returning, panicking. -/
inductive APm where
  | no
  | ret
  | pan (l : List (AV × Bool))

structure St where
  tm : Tr AV
  df : List ADf
  pm : APm
  rd : Bool
  H : AH

inductive AEx where
  | normal
  | exit (id : Nat)
  | ret
  | panic (l : List (AV × Bool))

def ChainRel (g : Gh) (w : World) (L : Nat → Prop) : List (AV × Bool) → List PanicEntry → Prop
  | [], es => es = []
  | (v, b) :: l, es => ∃ e es', es = e :: es' ∧ VRel g w v e.v ∧ Live L v ∧ e.recovered = b ∧ e.goexit = false ∧ ChainRel g w L l es'

def DfRel (g : Gh) (w : World) (L : Nat → Prop) : List ADf → List Deferred → Prop
  | [], ds => ds = []
  | .call f args :: l, ds => ∃ d ds', ds = d :: ds' ∧ DRel g w f args d ∧ Lives L args ∧ DfRel g w L l ds'
  | .mark o :: l, ds => ∃ ds', ds = { target := .collected (g.ob o), args := #[] } :: ds' ∧ L o ∧ DfRel g w L l ds'

def PmRel (g : Gh) (w : World) (L : Nat → Prop) (pm : APm) (fr : Frame) (cs : List Frame) : Prop :=
  match pm with
  | .no => True
  | .ret => fr.kind = .deferred ∧ fr.roundOf = none ∧ ∃ c0 rest, cs = c0 :: rest ∧ c0.mode = .returning
  | .pan l => fr.kind = .deferred ∧ fr.roundOf = none ∧ ∃ c0 rest chain, cs = c0 :: rest ∧ c0.mode = .panicking chain ∧ ChainRel g w L l chain

/-- The callers: the same, but that a panic of the first one may have been recovered. -/
def CsOk (pm : APm) (cs cs' : List Frame) : Prop :=
  match pm with
  | .pan _ => ∃ c0 rest m, cs = c0 :: rest ∧ cs' = { c0 with mode := m } :: rest
  | _ => cs' = cs

structure FrRel (g : Gh) (B : Nat) (w : World) (σ : St) (fr : Frame) (cs : List Frame) : Prop where
  h : HRel g B w σ.H
  tm : FRel g w σ.H.L σ.tm fr.tmps
  df : DfRel g w σ.H.L σ.df fr.defers
  pm : PmRel g w σ.H.L σ.pm fr cs
  rd : σ.rd = false → fr.roundOf = none

structure SameFr (fr fr' : Frame) : Prop where
  fn : fr'.fn = fr.fn
  kind : fr'.kind = fr.kind
  round : fr'.roundOf = fr.roundOf

theorem SameFr.trans {a b c : Frame} (h : SameFr a b) (k : SameFr b c) : SameFr a c := ⟨k.fn.trans h.fn, k.kind.trans h.kind, k.round.trans h.round⟩

def tgt : AEx → List Item → Option (List Item)
  | .normal, k => some k
  | .exit id, k => exitTo id k
  | _, _ => some []

def ExOk (g : Gh) (w : World) (L : Nat → Prop) (e : AEx) (fr : Frame) (k : List Item) : Prop :=
  match e with
  | .normal => fr.mode = .run ∧ fr.todo = k
  | .exit _ => fr.mode = .run ∧ fr.todo = k
  | .ret => fr.mode = .returning
  | .panic l => ∃ chain, fr.mode = .panicking chain ∧ ChainRel g w L l chain

/-- A list of items, carried out from an abstract state, ends so, in that abstract state: whatever the frame and the world. -/
def SemT (P : Program) (B : Nat) (its : List Item) (σ : St) (e : AEx) (σ' : St) : Prop :=
  ∀ g fr cs w k, FrRel g B w σ fr cs → fr.mode = .run → fr.todo = its ++ k → (e = .ret → fr.roundOf = none) → ∀ k', tgt e k = some k' →
    ∃ g' fr' cs' w', FrRel g' B w' σ' fr' cs' ∧ Out g B w σ.H g' w' σ'.H ∧ SameFr fr fr' ∧ CsOk σ.pm cs cs' ∧ ((∀ l, σ.pm ≠ .pan l) → ∀ l, σ'.pm ≠ .pan l) ∧ ExOk g' w' σ'.H.L e fr' k' ∧
      Steps P (lone fr cs w) (lone fr' cs' w')

def Sem (P : Program) (B : Nat) (c : Code) (σ : St) (e : AEx) (σ' : St) : Prop := SemT P B [.code c] σ e σ'

theorem CsOk.refl (pm : APm) (cs : List Frame) (fr : Frame) {g : Gh} {w : World} {L : Nat → Prop} (h : PmRel g w L pm fr cs) : CsOk pm cs cs := by
  cases pm with
  | pan l =>
    obtain ⟨_, _, c0, rest, chain, e, _, _⟩ := h
    exact ⟨c0, rest, c0.mode, e, e⟩
  | _ => rfl

theorem CsOk.trans {pm pm' : APm} {a b c : List Frame} (h : CsOk pm a b) (k : CsOk pm' b c) (hp : (∀ l, pm ≠ .pan l) → ∀ l, pm' ≠ .pan l) : CsOk pm a c := by
  cases pm with
  | pan l =>
    obtain ⟨c0, rest, m, e1, e2⟩ := h
    cases pm' with
    | pan l' =>
      obtain ⟨c1, rest', m', e3, e4⟩ := k
      rw [e2] at e3
      injection e3 with e5 e6
      subst e5; subst e6
      exact ⟨c0, rest, m', e1, e4⟩
    | _ =>
      have k : c = b := k
      exact ⟨c0, rest, m, e1, k.trans e2⟩
  | _ =>
    have h : b = a := h
    cases pm' with
    | pan l' => exact absurd rfl (hp (by intro l; simp) l')
    | _ =>
      have k : c = b := k
      exact k.trans h

section
variable {P : Program} {B : Nat} {σ σ1 σ' : St} {e : AEx}

theorem step_go {fr fr' : Frame} {cs cs' : List Frame} {w w' : World}
    (h : (stepG P true { frame := fr, callers := cs, status := .running, dying := none } w).bare = .go { frame := fr', callers := cs', status := .running, dying := none } w') :
    Steps P (lone fr cs w) (lone fr' cs' w') := .one (step_lone_go h)

/-- A step that only turns what is to be done. -/
theorem FrRel.todo {g : Gh} {w : World} {fr : Frame} {cs : List Frame} (h : FrRel g B w σ fr cs) (todo : List Item) : FrRel g B w σ { fr with todo := todo } cs :=
  ⟨h.h, h.tm, h.df, by
    have := h.pm
    unfold PmRel at *
    split at this <;> simp_all, h.rd⟩

theorem FrRel.mode {g : Gh} {w : World} {fr : Frame} {cs : List Frame} (h : FrRel g B w σ fr cs) (m : FrameMode) : FrRel g B w σ { fr with mode := m } cs :=
  ⟨h.h, h.tm, h.df, by
    have := h.pm
    unfold PmRel at *
    split at this <;> simp_all, h.rd⟩

/-- Steps ahead that only turn what is to be done. -/
theorem SemT.ahead {its its' : List Item} (h : SemT P B its' σ e σ') (ht : ∀ k, tgt e k = tgt e k)
    (hs : ∀ g fr cs w k, FrRel g B w σ fr cs → fr.mode = .run → fr.todo = its ++ k → Steps P (lone fr cs w) (lone { fr with todo := its' ++ k } cs w)) : SemT P B its σ e σ' := by
  intro g fr cs w k hr hm htd hro k' hk
  have _ := ht k
  obtain ⟨g', fr', cs', w', h1, h2, h3, h4, h5, h6, h7⟩ := h g { fr with todo := its' ++ k } cs w k (hr.todo _) hm rfl hro k' hk
  exact ⟨g', fr', cs', w', h1, h2, ⟨h3.fn, h3.kind, h3.round⟩, h4, h5, h6, (hs g fr cs w k hr hm htd).trans h7⟩

/-- A step that only turns what is to be done, nothing else. -/
theorem SemT.idle {its : List Item} (hs : ∀ g fr cs w k, FrRel g B w σ fr cs → fr.mode = .run → fr.todo = its ++ k → Steps P (lone fr cs w) (lone { fr with todo := k } cs w)) : SemT P B its σ .normal σ := by
  intro g fr cs w k hr hm htd hro k' hk
  simp only [tgt, Option.some.injEq] at hk
  subst hk
  exact ⟨g, { fr with todo := k }, cs, w, hr.todo _, Out.refl hr.h, ⟨rfl, rfl, rfl⟩, CsOk.refl _ _ _ hr.pm, fun h => h, ⟨hm, rfl⟩, hs g fr cs w k hr hm htd⟩

theorem Sem.skip : Sem P B .skip σ .normal σ :=
  SemT.idle fun _ fr cs w k _ hm ht => step_go (by
    simp only [List.cons_append, List.nil_append] at ht
    simp [stepG, stepG.exec, hm, ht])

theorem Sem.label {l : Nat} : Sem P B (.label l) σ .normal σ :=
  SemT.idle fun _ fr cs w k _ hm ht => step_go (by
    simp only [List.cons_append, List.nil_append] at ht
    simp [stepG, stepG.exec, hm, ht])

/-- One thing behind the other. -/
theorem SemT.append {a b : List Item} (h : SemT P B a σ .normal σ1) (k : SemT P B b σ1 e σ') : SemT P B (a ++ b) σ e σ' := by
  intro g fr cs w kk hr hm ht hro k' hk
  obtain ⟨g1, fr1, cs1, w1, h1, h2, h3, h4, h5, h6, h7⟩ := h g fr cs w (b ++ kk) hr hm (by rw [ht, List.append_assoc]) (fun e => by cases e) (b ++ kk) rfl
  obtain ⟨g2, fr2, cs2, w2, f1, f2, f3, f4, f5, f6, f7⟩ := k g1 fr1 cs1 w1 kk h1 h6.1 h6.2 (fun e => h3.round.trans (hro e)) k' hk
  exact ⟨g2, fr2, cs2, w2, f1, h2.trans f2, h3.trans f3, h4.trans f4 h5, fun hp => f5 (h5 hp), f6, h7.trans f7⟩

/-- What an exit passes. -/
def passes (e : AEx) (it : Item) : Prop := e ≠ .normal ∧ ∀ k, tgt e (it :: k) = tgt e k

theorem SemT.pass {a : List Item} {it : Item} (h : SemT P B a σ e σ') (hp : passes e it) : SemT P B (a ++ [it]) σ e σ' := by
  intro g fr cs w k hr hm ht hro k' hk
  obtain ⟨g1, fr1, cs1, w1, h1, h2, h3, h4, h5, h6, h7⟩ := h g fr cs w (it :: k) hr hm (by rw [ht, List.append_assoc]; rfl) hro k' (by rw [hp.2]; exact hk)
  exact ⟨g1, fr1, cs1, w1, h1, h2, h3, h4, h5, h6, h7⟩

theorem passes_code (c : Code) (he : e ≠ .normal) : passes e (.code c) := ⟨he, fun k => by cases e <;> first | exact absurd rfl he | rfl⟩
theorem passes_inLoop (c : Code) (he : e ≠ .normal) : passes e (.inLoop c) := ⟨he, fun k => by cases e <;> first | exact absurd rfl he | rfl⟩
theorem passes_inScope (c : Code) (he : e ≠ .normal) : passes e (.inScope c) := ⟨he, fun k => by cases e <;> first | exact absurd rfl he | rfl⟩
theorem passes_inBlock (id : Nat) (he : e ≠ .normal) (hid : e ≠ .exit id) : passes e (.inBlock id) :=
  ⟨he, fun k => by
    cases e <;> first
      | exact absurd rfl he
      | rfl
      | (rename_i id'
         simp only [tgt, exitTo]
         rw [if_neg]
         intro e
         exact hid (by rw [beq_iff_eq] at e; rw [e]))⟩

theorem Sem.seq {x y : Code} (h : Sem P B x σ .normal σ1) (k : Sem P B y σ1 e σ') : Sem P B (.seq x y) σ e σ' :=
  SemT.ahead (its' := [.code x] ++ [.code y]) (SemT.append (a := [.code x]) h k) (fun _ => rfl) fun _ fr cs w k _ hm ht => step_go (by
    simp only [List.cons_append, List.nil_append] at ht
    simp [stepG, stepG.exec, hm, ht])

theorem Sem.seq_exit {x y : Code} (h : Sem P B x σ e σ') (he : e ≠ .normal) : Sem P B (.seq x y) σ e σ' :=
  SemT.ahead (its' := [.code x] ++ [.code y]) (SemT.pass (a := [.code x]) h (passes_code y he)) (fun _ => rfl) fun _ fr cs w k _ hm ht => step_go (by
    simp only [List.cons_append, List.nil_append] at ht
    simp [stepG, stepG.exec, hm, ht])

theorem Sem.cond {x y : Code} {c : Operand} {b : Bool} (hc : aev σ.tm c = .bool b) (h : Sem P B (if b then x else y) σ e σ') : Sem P B (.cond c x y) σ e σ' :=
  SemT.ahead (its' := [.code (if b then x else y)]) h (fun _ => rfl) fun g fr cs w k hr hm ht => step_go (by
    have hv := hr.tm.ev (a := { tmps := fr.tmps, defers := fr.defers }) c
    rw [hc] at hv
    simp only [VRel] at hv
    have hv' : fr.eval c = .bool b := by
      rw [← hv]
      cases c <;> rfl
    simp only [List.cons_append, List.nil_append] at ht
    simp [stepG, stepG.exec, hm, ht, hv'])

theorem Sem.block_normal {id : Nat} {c : Code} (h : Sem P B c σ .normal σ') : Sem P B (.block id c) σ .normal σ' :=
  SemT.ahead (its' := [.code c] ++ [.inBlock id]) (SemT.append (a := [.code c]) h (SemT.idle fun _ fr cs w k _ hm ht => step_go (by
    simp only [List.cons_append, List.nil_append] at ht
    simp [stepG, stepG.exec, hm, ht]))) (fun _ => rfl) fun _ fr cs w k _ hm ht => step_go (by
    simp only [List.cons_append, List.nil_append] at ht
    simp [stepG, stepG.exec, hm, ht])

theorem Sem.block_pass {id : Nat} {c : Code} (h : Sem P B c σ e σ') (he : e ≠ .normal) (hid : e ≠ .exit id) : Sem P B (.block id c) σ e σ' :=
  SemT.ahead (its' := [.code c] ++ [.inBlock id]) (SemT.pass (a := [.code c]) h (passes_inBlock id he hid)) (fun _ => rfl) fun _ fr cs w k _ hm ht => step_go (by
    simp only [List.cons_append, List.nil_append] at ht
    simp [stepG, stepG.exec, hm, ht])

theorem Sem.block_exit {id : Nat} {c : Code} (h : Sem P B c σ (.exit id) σ') : Sem P B (.block id c) σ .normal σ' := by
  refine SemT.ahead (its' := [.code c] ++ [.inBlock id]) ?_ (fun _ => rfl) fun _ fr cs w k _ hm ht => step_go (by
    simp only [List.cons_append, List.nil_append] at ht
    simp [stepG, stepG.exec, hm, ht])
  intro g fr cs w k hr hm ht hro k' hk
  obtain ⟨g1, fr1, cs1, w1, h1, h2, h3, h4, h5, h6, h7⟩ := h g fr cs w (.inBlock id :: k) hr hm (by rw [ht, List.append_assoc]; rfl) (fun e => by cases e) k' (by
    simp only [tgt, Option.some.injEq] at hk
    subst hk
    simp [tgt, exitTo])
  exact ⟨g1, fr1, cs1, w1, h1, h2, h3, h4, h5, h6, h7⟩

theorem Sem.scope_normal {c : Code} (h : Sem P B c σ .normal σ') : Sem P B (.scope c) σ .normal σ' :=
  SemT.ahead (its' := [.code c] ++ [.inScope c]) (SemT.append (a := [.code c]) h (SemT.idle fun _ fr cs w k _ hm ht => step_go (by
    simp only [List.cons_append, List.nil_append] at ht
    simp [stepG, stepG.exec, hm, ht]))) (fun _ => rfl) fun _ fr cs w k _ hm ht => step_go (by
    simp only [List.cons_append, List.nil_append] at ht
    simp [stepG, stepG.exec, hm, ht])

theorem Sem.scope_pass {c : Code} (h : Sem P B c σ e σ') (he : e ≠ .normal) : Sem P B (.scope c) σ e σ' :=
  SemT.ahead (its' := [.code c] ++ [.inScope c]) (SemT.pass (a := [.code c]) h (passes_inScope c he)) (fun _ => rfl) fun _ fr cs w k _ hm ht => step_go (by
    simp only [List.cons_append, List.nil_append] at ht
    simp [stepG, stepG.exec, hm, ht])

/-- A round of a loop, and what follows. -/
def SemL (P : Program) (B : Nat) (c : Code) (σ : St) (e : AEx) (σ' : St) : Prop := SemT P B [.code c, .inLoop c] σ e σ'

theorem SemL.next {c : Code} (h : Sem P B c σ .normal σ1) (k : SemL P B c σ1 e σ') : SemL P B c σ e σ' :=
  SemT.append (a := [.code c]) (b := [.inLoop c]) h (SemT.ahead (its' := [.code c, .inLoop c]) k (fun _ => rfl) fun _ fr cs w k _ hm ht => step_go (by
    simp only [List.cons_append, List.nil_append] at ht
    simp [stepG, stepG.exec, hm, ht]))

theorem SemL.stop {c : Code} (h : Sem P B c σ e σ') (he : e ≠ .normal) : SemL P B c σ e σ' := SemT.pass (a := [.code c]) h (passes_inLoop c he)

theorem Sem.loop {c : Code} (h : SemL P B c σ e σ') : Sem P B (.loop c) σ e σ' :=
  SemT.ahead (its' := [.code c, .inLoop c]) h (fun _ => rfl) fun _ fr cs w k _ hm ht => step_go (by
    simp only [List.cons_append, List.nil_append] at ht
    simp [stepG, stepG.exec, hm, ht])

theorem Sem.exit {id : Nat} : Sem P B (.exit id) σ (.exit id) σ := by
  intro g fr cs w k hr hm ht hro k' hk
  simp only [tgt] at hk
  refine ⟨g, { fr with todo := k' }, cs, w, hr.todo _, Out.refl hr.h, ⟨rfl, rfl, rfl⟩, CsOk.refl _ _ _ hr.pm, fun h => h, ⟨hm, rfl⟩, step_go ?_⟩
  simp only [List.cons_append, List.nil_append] at ht
  simp [stepG, stepG.exec, hm, ht, hk]

theorem Sem.ret : Sem P B .ret σ .ret σ := by
  intro g fr cs w k hr hm ht hro k' hk
  refine ⟨g, { fr with mode := .returning }, cs, w, hr.mode _, Out.refl hr.h, ⟨rfl, rfl, rfl⟩, CsOk.refl _ _ _ hr.pm, fun h => h, rfl, step_go ?_⟩
  simp only [List.cons_append, List.nil_append] at ht
  simp [stepG, stepG.exec, hm, ht, hro rfl]

end
end
end Go.Abs
