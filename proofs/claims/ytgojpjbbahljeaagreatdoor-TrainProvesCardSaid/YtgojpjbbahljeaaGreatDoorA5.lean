/-
  The tables, the operands, and the results of operations.
-/
import Derived.Test.YtgojpjbbahljeaaGreatDoorA4
import Derived.Laws.StructEq
/-! The tables, the operands, and the results of operations. -/
namespace Go.Abs
open Go
noncomputable section

def TOK (P : Program) (T : Tr TypeInfo) : Prop := ∀ t i, T.get t = some i → P.info? t = some i

def tyU (T : Tr TypeInfo) (t : TypeId) : Option TypeDesc :=
  match T.get t with
  | some i => match i.desc with
    | .named _ u => match T.get u with
      | some j => some j.desc
      | none => none
    | d => some d
  | none => none

theorem tyU_ok {P : Program} {T : Tr TypeInfo} (hT : TOK P T) {t : TypeId} {d : TypeDesc} (h : tyU T t = some d) : P.underlying t = some d := by
  unfold tyU at h
  cases hi : T.get t with
  | none => rw [hi] at h; cases h
  | some i =>
    rw [hi] at h
    have h1 := hT t i hi
    unfold Program.underlying
    rw [h1]
    simp only at h ⊢
    cases hd : i.desc with
    | named nm u =>
      simp only [hd] at h ⊢
      cases hj : T.get u with
      | none => rw [hj] at h; cases h
      | some j =>
        rw [hj] at h
        have h2 := hT u j hj
        obtain ⟨d0, _⟩ := i
        simp only at hd
        subst hd
        simp [h2]
        simpa using h
    | _ =>
      simp only [hd] at h ⊢
      obtain ⟨d0, _⟩ := i
      simp only at hd
      subst hd
      simpa using h

theorem run_underlying_ok {P : Program} {T : Tr TypeInfo} (hT : TOK P T) {t : TypeId} {d : TypeDesc} (h : tyU T t = some d) (w : World) : (underlying t).run P w = .ok d w :=
  run_underlying (tyU_ok hT h) w

theorem run_typeInfo_ok {P : Program} {T : Tr TypeInfo} (hT : TOK P T) {t : TypeId} {i : TypeInfo} (h : T.get t = some i) (w : World) : (typeInfo t).run P w = .ok i w := by
  simp [typeInfo, hT t i h]

theorem run_sizeOf_ok {P : Program} {T : Tr TypeInfo} (hT : TOK P T) {t : TypeId} {i : TypeInfo} (h : T.get t = some i) (w : World) : (sizeOf t).run P w = .ok i.size w := by
  simp [sizeOf, run_typeInfo_ok hT h]

theorem run_zeroValue_ok {P : Program} {T : Tr TypeInfo} (hT : TOK P T) {t : TypeId} {i : TypeInfo} (h : T.get t = some i) {v : Value} (hz : i.zero = some v) (w : World) : (zeroValue t).run P w = .ok v w := by
  simp [zeroValue, run_typeInfo_ok hT h, hz]

mutual
/-- A constant of the text, as an abstract value. -/
def ofV : Value → AV
  | .bool b => .bool b
  | .int k n => .int k n
  | .string s => .str s.data.toList
  | .pointer none => .nilp
  | .slice none 0 0 => .nils
  | .map none => .nilm
  | .nilFunc => .nilf
  | .nilIface => .nili
  | .iface t v => .iface t (ofV v)
  | .agg ⟨cs⟩ => .agg (ofVs cs)
  | _ => .unk
def ofVs : List Value → List AV
  | [] => []
  | v :: vs => ofV v :: ofVs vs
end

mutual
theorem ofV_rel (g : Gh) (w : World) : ∀ v, VRel g w (ofV v) v
  | .bool _ => by simp [ofV, VRel]
  | .int _ _ => by simp [ofV, VRel]
  | .string _ => by simp [ofV, VRel]
  | .pointer none => by simp [ofV, VRel]
  | .pointer (some _) => by simp [ofV, VRel]
  | .slice none 0 0 => by simp [ofV, VRel]
  | .slice none 0 (_ + 1) => by simp [ofV, VRel]
  | .slice none (_ + 1) _ => by simp [ofV, VRel]
  | .slice (some _) _ _ => by simp [ofV, VRel]
  | .map none => by simp [ofV, VRel]
  | .map (some _) => by simp [ofV, VRel]
  | .nilFunc => by simp [ofV, VRel]
  | .nilIface => by simp [ofV, VRel]
  | .iface _ v => by
    simp only [ofV, VRel]
    exact ⟨v, rfl, ofV_rel g w v⟩
  | .agg ⟨cs⟩ => by
    simp only [ofV, VRel]
    exact ⟨⟨cs⟩, rfl, ofVs_rel g w cs⟩
  | .float _ _ => by simp [ofV, VRel]
  | .complex _ _ _ => by simp [ofV, VRel]
  | .chan _ => by simp [ofV, VRel]
  | .func _ _ _ => by simp [ofV, VRel]
  | .tuple _ => by simp [ofV, VRel]
theorem ofVs_rel (g : Gh) (w : World) : ∀ vs, VRels g w (ofVs vs) vs
  | [] => by simp [ofVs, VRels]
  | v :: vs => by
    simp only [ofVs, VRels]
    exact ⟨v, vs, rfl, ofV_rel g w v, ofVs_rel g w vs⟩
end

mutual
theorem ofV_live (L : Nat → Prop) : ∀ v, Live L (ofV v)
  | .bool _ => trivial
  | .int _ _ => trivial
  | .string _ => trivial
  | .pointer none => trivial
  | .pointer (some _) => trivial
  | .slice none 0 0 => trivial
  | .slice none 0 (_ + 1) => trivial
  | .slice none (_ + 1) _ => trivial
  | .slice (some _) _ _ => trivial
  | .map none => trivial
  | .map (some _) => trivial
  | .nilFunc => trivial
  | .nilIface => trivial
  | .iface _ v => ofV_live L v
  | .agg ⟨cs⟩ => ofVs_live L cs
  | .float _ _ => trivial
  | .complex _ _ _ => trivial
  | .chan _ => trivial
  | .func _ _ _ => trivial
  | .tuple _ => trivial
theorem ofVs_live (L : Nat → Prop) : ∀ vs, Lives L (ofVs vs)
  | [] => trivial
  | v :: vs => ⟨ofV_live L v, ofVs_live L vs⟩
end

/- The same over abstract values, without the type among its words. -/
def getA (p : Pa) : Tr AV → Option AV :=
  @Pa.rec (fun _ => Tr AV → Option AV)
    (fun t => @Tr.rec AV (fun _ => Option AV) none (fun v _ _ _ _ => some v) t)
    (fun _ ih t => @Tr.rec AV (fun _ => Option AV) none (fun _ l _ _ _ => ih l) t)
    (fun _ ih t => @Tr.rec AV (fun _ => Option AV) none (fun _ _ r _ _ => ih r) t) p
theorem getA_eq (t : Tr AV) (i : Nat) : getA (pathOf i) t = t.get i := rfl

def setA (p : Pa) : Tr AV → AV → (Tr AV → Prop) → Prop :=
  @Pa.rec (fun _ => Tr AV → AV → (Tr AV → Prop) → Prop)
    (fun t x K => @Tr.rec AV (fun _ => Prop) False (fun _ l r _ _ => K (.node x l r)) t)
    (fun _ ih t x K => @Tr.rec AV (fun _ => Prop) False (fun v l r _ _ => ih l x fun l' => K (.node v l' r)) t)
    (fun _ ih t x K => @Tr.rec AV (fun _ => Prop) False (fun v l r _ _ => ih r x fun r' => K (.node v l r')) t) p
theorem setA_eq (t : Tr AV) (i : Nat) (x : AV) (K : Tr AV → Prop) : setA (pathOf i) t x K = t.setK i x K := rfl

def orUnk (x : Option AV) : AV := @Option.rec AV (fun _ => AV) .unk (fun v => v) x

/-- The value of an operand. -/
def aev (tm : Tr AV) (x : Operand) : AV :=
  @Operand.rec (fun _ => Tr AV → AV) (fun t tm => orUnk (getA (pathOf t) tm)) (fun v _ => ofV v) (fun g _ => .gp g 0) (fun f _ => .func (.func f) [] []) x tm

theorem aev_tmp (tm : Tr AV) (t : Tmp) : aev tm (.tmp t) = match tm.get t with
    | some v => v
    | none => .unk := by
  show orUnk (getA (pathOf t) tm) = _
  rw [getA_eq]
  cases tm.get t <;> rfl
theorem aev_const (tm : Tr AV) (v : Value) : aev tm (.const v) = ofV v := rfl
theorem aev_global (tm : Tr AV) (g : Nat) : aev tm (.global g) = .gp g 0 := rfl
theorem aev_func (tm : Tr AV) (f : FuncId) : aev tm (.func f) = .func (.func f) [] [] := rfl

/-- Temporaries of a frame. -/
structure FRel (g : Gh) (w : World) (L : Nat → Prop) (tm : Tr AV) (arr : Array Value) : Prop where
  rel : ∀ t a, tm.get t = some a → t < arr.size ∧ VRel g w a (arr.getD t undef)
  live : ∀ t a, tm.get t = some a → Live L a

theorem FRel.ev {g : Gh} {w : World} {L : Nat → Prop} {tm : Tr AV} {a : Act} (h : FRel g w L tm a.tmps) (x : Operand) : VRel g w (aev tm x) (a.eval x) := by
  cases x with
  | tmp t =>
    simp only [aev_tmp, Act.eval]
    cases ht : tm.get t with
    | none => simp [VRel]
    | some v => exact (h.rel t v ht).2
  | const v => exact ofV_rel g w v
  | global gl => simp [aev_global, Act.eval, VRel]
  | func f => simp [aev_func, Act.eval, VRel, VRels]

theorem FRel.evl {g : Gh} {w : World} {L : Nat → Prop} {tm : Tr AV} {arr : Array Value} (h : FRel g w L tm arr) (x : Operand) : Live L (aev tm x) := by
  cases x with
  | tmp t =>
    simp only [aev_tmp]
    cases ht : tm.get t with
    | none => trivial
    | some v => exact h.live t v ht
  | const v => exact ofV_live L v
  | global gl => trivial
  | func f => exact ⟨trivial, trivial⟩

def FOK (P : Program) (F : Tr Func) : Prop := ∀ f fn, F.get f = some fn → P.funcs[f]? = some fn ∧ (fn.name == "runtime.NumGoroutine") = false

/-- What an operation is carried out in. -/
structure OCtx (P : Program) (T : Tr TypeInfo) (F : Tr Func) (g : Gh) (B : Nat) (w : World) (H : AH) (s : Nat) (ev : Operand → AV) (ρ : Operand → Value) : Prop where
  T : TOK P T
  F : FOK P F
  h : HRel g B w H
  s : H.o s = .hole
  rel : ∀ x, VRel g w (ev x) (ρ x)
  live : ∀ x, Live H.L (ev x)

/-- An abstract deferred call, and the model's. -/
def DRel (g : Gh) (w : World) (f : FuncId) (args : List AV) (d : Deferred) : Prop :=
  ∃ cap as, d = { target := .fn (.func f) cap, args := as } ∧ VRels g w args (as ++ cap).toList

/-- What comes of an operation. -/
def OpRes (g : Gh) (B : Nat) (w : World) (H : AH) (W : WL) (res : Result Next) : PRes → Prop
  | .val v => ∃ u g' w', res = .ok (.value u) w' ∧ Out g B w H g' w' (H.app W) ∧ VRel g' w' v u ∧ Live (H.app W).L v
  | .skip => ∃ g' w', res = .ok .skip w' ∧ Out g B w H g' w' (H.app W)
  | .call f args => W = [] ∧ ∃ vs, res = .ok (.enter f vs) w ∧ VRels g w args vs.toList ∧ Lives H.L args
  | .yld l args => W = [] ∧ H.L l ∧ ∃ vs : Array Value, (∃ st fn tm nt params assign body dfr, H.o l = .loop st fn tm nt params assign body dfr ∧ vs.size = params.length ∧
      ∃ lp : Loop, w.heap[g.ob l]? = some (.loop lp) ∧
        res = .ok (.round (g.ob l) lp.fn ((lp.params.zip vs).foldl (fun tmps (t, a) => tmps.setIfInBounds t a) lp.tmps) lp.assign lp.body) w) ∧ VRels g w args vs.toList ∧ Lives H.L args
  | .defr f args => W = [] ∧ ∃ d, res = .ok (.defer d) w ∧ DRel g w f args d ∧ Lives H.L args
  | .recover => W = [] ∧ res = .ok .recover w
  | .panic v => W = [] ∧ ∃ u, res = .halt (.panic u) w ∧ VRel g w v u ∧ Live H.L v

section
variable {P : Program} {T : Tr TypeInfo} {F : Tr Func} {g : Gh} {B : Nat} {w : World} {H : AH} {s : Nat} {ev : Operand → AV} {ρ : Operand → Value}

/-- A value, nothing else. -/
theorem OpRes.pure (hr : HRel g B w H) {v : AV} {u : Value} {res : Result Next} (hres : res = .ok (.value u) w) (hv : VRel g w v u) (hl : Live H.L v) :
    OpRes g B w H [] res (.val v) := ⟨u, g, w, hres, Out.refl hr, hv, hl⟩

theorem evF_ret {v : AV} {o : Nat → AObj} {r : PRes} {R : List Nat} {W : WL} (h : EvF s (.ret v) o r R W) : r = .val v ∧ W = [] := ⟨h.1, h.2.2⟩

end
end
end Go.Abs
