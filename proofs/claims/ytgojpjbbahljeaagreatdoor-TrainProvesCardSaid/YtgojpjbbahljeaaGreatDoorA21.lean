/-
  Regions whose order is drawn: the order of the text stands for all.
-/
import Derived.Test.YtgojpjbbahljeaaGreatDoorP1
import Derived.Orders
/-! Regions whose order is drawn: the order of the text stands for all. -/
namespace Go.Abs
open Go
noncomputable section

theorem EvF.slot {s s' : Nat} : ∀ (p : Plan) (o : Nat → AObj) (r : PRes) (R : List Nat), EvF s p o r R [] → EvF s' p o r R []
  | .ret _, _, _, _, h => h
  | .skip, _, _, _, h => h
  | .fail, _, _, _, h => h
  | .chk _ k, o, r, R, h => ⟨h.1, EvF.slot k o r R h.2⟩
  | .fL xs k, o, r, R, h => EvF.slot (k xs) o r R h
  | .get i k, o, r, R, h => by
    obtain ⟨R', e, h1⟩ := h
    exact ⟨R', e, EvF.slot (k (o i)) o r R' h1⟩
  | .setcs i off vs k, o, r, R, h => by
    obtain ⟨R', W', t, n, ty, t', e, h1, h2, h3, h4, h5⟩ := h
    cases h4
  | .seto i x rb k, o, r, R, h => by
    obtain ⟨R', W', e, h1, h2⟩ := h
    cases h1
  | .newl cs ty k, o, r, R, h => by
    obtain ⟨W', t, h1, h2, h3⟩ := h
    cases h2
  | .newc n x ty k, o, r, R, h => by
    obtain ⟨W', t, h1, h2, h3⟩ := h
    cases h2
  | .newo x k, o, r, R, h => by
    obtain ⟨W', h1, h2⟩ := h
    cases h1
  | .call _ _, _, _, _, h => h
  | .yld _ _, _, _, _, h => h
  | .defr _ _, _, _, _, h => h
  | .recover, _, _, _, h => h
  | .panic _, _, _, _, h => h

theorem Tr.set_ex {α : Type} : ∀ (t : Tr α) (d : Nat) (x y : α), t.get d = some y → ∃ t' : Tr α, ∀ j, t'.get j = if j = d then some x else t.get j
  | .nil, d, x, y, h => by rw [Tr.get_nil] at h; cases h
  | .node v l r, d, x, y, h => by
    cases d with
    | zero =>
      refine ⟨.node x l r, fun j => ?_⟩
      cases j with
      | zero => rfl
      | succ j => rw [if_neg (by omega)]; exact Tr.get_top _ _ _ _ _
    | succ d =>
      by_cases hd : d % 2 = 0
      · rw [Tr.get_node_even v l r hd] at h
        obtain ⟨l', hl⟩ := Tr.set_ex l (d / 2) x y h
        refine ⟨.node v l' r, fun j => ?_⟩
        cases j with
        | zero => rfl
        | succ j =>
          by_cases hj : j % 2 = 0
          · rw [Tr.get_node_even _ _ _ hj, Tr.get_node_even _ _ _ hj, hl]
            by_cases e : j = d
            · subst e; simp
            · rw [if_neg (by omega), if_neg (by omega)]
          · rw [Tr.get_node_odd _ _ _ hj, Tr.get_node_odd _ _ _ hj, if_neg (by intro e; omega)]
      · rw [Tr.get_node_odd v l r hd] at h
        obtain ⟨r', hr⟩ := Tr.set_ex r (d / 2) x y h
        refine ⟨.node v l r', fun j => ?_⟩
        cases j with
        | zero => rfl
        | succ j =>
          by_cases hj : j % 2 = 0
          · rw [Tr.get_node_even _ _ _ hj, Tr.get_node_even _ _ _ hj, if_neg (by intro e; omega)]
          · rw [Tr.get_node_odd _ _ _ hj, Tr.get_node_odd _ _ _ hj, hr]
            by_cases e : j = d
            · subst e; simp
            · rw [if_neg (by omega), if_neg (by omega)]

theorem AH.put_comm (H : AH) {i j : Nat} (x y : AObj) (r q : Nat) (h : i ≠ j) : (H.put i x r).put j y q = (H.put j y q).put i x r := by
  unfold AH.put
  simp only [AH.mk.injEq]
  refine ⟨by omega, ?_, ?_⟩
  · by_cases h1 : r ≤ i + 1 <;> by_cases h2 : q ≤ j + 1 <;> simp [h1, h2] <;> omega
  · funext k
    unfold upd
    by_cases h1 : k = i <;> by_cases h2 : k = j <;> simp [h1, h2] <;> omega

def idxs (W : WL) : List Nat := W.map (·.1)

theorem AH.app_o : ∀ (W : WL) (H : AH) (k : Nat), k ∉ idxs W → (H.app W).o k = H.o k
  | [], _, _, _ => rfl
  | (i, x, r) :: W, H, k, h => by
    simp only [idxs, List.map_cons, List.mem_cons, not_or] at h
    have := AH.app_o W (H.put i x r) k h.2
    rw [AH.app, this]
    exact upd_ne _ _ h.1

theorem AH.app_put : ∀ (W : WL) (H : AH) {i : Nat} (x : AObj) (r : Nat), i ∉ idxs W → (H.put i x r).app W = (H.app W).put i x r
  | [], _, _, _, _, _ => rfl
  | (j, y, q) :: W, H, i, x, r, h => by
    simp only [idxs, List.map_cons, List.mem_cons, not_or] at h
    rw [AH.app, AH.app, AH.put_comm H x y r q h.1]
    exact AH.app_put W _ x r h.2

theorem AH.app_comm : ∀ (W W' : WL) (H : AH), (∀ i, i ∈ idxs W → i ∉ idxs W') → (H.app W).app W' = (H.app W').app W
  | [], _, _, _ => rfl
  | (i, x, r) :: W, W', H, h => by
    rw [AH.app, AH.app_comm W W' _ fun k hk => h k (by simp only [idxs, List.map_cons, List.mem_cons]; exact .inr hk), AH.app_put W' H x r (h i (by simp [idxs]))]
    rfl

/-! ### An operation sees its operands alone -/

theorem pOp_congr {P : Program} {T : Tr TypeInfo} {F : Tr Func} {X : XT} {ev ev' : Operand → AV} (o : Oper) (h : ∀ x ∈ o.op.operands, ev x = ev' x) : pOp P T F X ev o = pOp P T F X ev' o := by
  obtain ⟨dst, op, type, pos, after, guard⟩ := o
  have pairs : ∀ ps : Array (Nat × Operand), (∀ x ∈ (ps.toList.map (·.2)).toArray, ev x = ev' x) → (ps.toList.map fun p => (p.1, ev p.2)) = (ps.toList.map fun p => (p.1, ev' p.2)) := fun ps hp =>
    List.map_congr_left fun p hm => by
      obtain ⟨i, x⟩ := p
      simp only [hp x (by simp only [List.mem_toArray, List.mem_map]; exact ⟨(i, x), hm, rfl⟩)]
  have args : ∀ xs : Array Operand, (∀ x ∈ xs, ev x = ev' x) → xs.toList.map ev = xs.toList.map ev' := fun xs hp => List.map_congr_left fun x hx => hp x (by simpa using hx)
  rw [pOp_eq, pOp_eq]
  cases op <;> simp only [Op.operands] at h <;> simp only [pOpM]
  case build t ps => rw [pairs ps h]
  case buildSlice t n ps => rw [pairs ps h]
  case makeFunc fn first captured => rw [args first fun x hx => h x (by simp [hx]), args captured fun x hx => h x (by simp [hx])]
  case slice t x lo hi mx => cases lo <;> cases hi <;> cases mx <;> simp_all
  case call c =>
    have ha := args c.args fun x hx => h x (by simp [Call.operands, hx])
    cases hc : c.callee with
    | builtin b => simp only [ha]
    | value f => simp only [ha, h f (by simp [Call.operands, hc])]
    | invoke r m => simp only [ha, h r (by simp [Call.operands, hc])]
  case defer c =>
    have ha := args c.args fun x hx => h x (by simp [Call.operands, hx])
    cases hc : c.callee with
    | value f => simp only [ha, h f (by simp [Call.operands, hc])]
    | _ => rfl
  all_goals (first | rfl | (simp_all; done))

/-! ### Records -/

inductive RK where
  | off
  | val
  | skip
  | call (f : FuncId) (args : List AV)
  /-- A call that touches no object. -/
  | pure (f : FuncId) (args : List AV)

structure Rec where
  k : RK
  v : AV
  R : List Nat
  W : WL
  /-- Of a call: the objects below n0 that it may have changed. -/
  U : List Nat
  n0 : Nat

def Rec.isCall (r : Rec) : Bool := match r.k with | .call _ _ => true | _ => false

section
variable {P : Program} {T : Tr TypeInfo} {F : Tr Func} {X : XT} {B : Nat} {ops : Array Oper} {base : Nat}

def RKOk (P : Program) (T : Tr TypeInfo) (F : Tr Func) (X : XT) (B : Nat) (ops : Array Oper) (s : Nat) (o : Oper) (r : Rec) (tm : Tr AV) (H H' : AH) : Prop :=
  match r.k with
  | .off => guardA ops tm o = some false ∧ r.v = .tup [] ∧ r.W = [] ∧ H' = H
  | .val => guardA ops tm o = some true ∧ (r.W ≠ [] → H.o s = .hole) ∧ EvF s (pOp P T F X (aev tm) o) H.o (.val r.v) r.R r.W ∧ H' = H.app r.W
  | .skip => guardA ops tm o = some true ∧ (r.W ≠ [] → H.o s = .hole) ∧ EvF s (pOp P T F X (aev tm) o) H.o .skip r.R r.W ∧ r.v = .tup [] ∧ H' = H.app r.W
  | .call f args => guardA ops tm o = some true ∧ r.W = [] ∧ EvF s (pOp P T F X (aev tm) o) H.o (.call f args) r.R [] ∧ CSem P B f args H (.ret r.v) H' ∧ ∀ x, x < r.n0 → x ∉ r.U → H'.o x = H.o x
  | .pure f args => guardA ops tm o = some true ∧ r.W = [] ∧ EvF s (pOp P T F X (aev tm) o) H.o (.call f args) r.R [] ∧ Pure P f args r.v ∧ H' = H

structure RStep (P : Program) (T : Tr TypeInfo) (F : Tr Func) (X : XT) (B : Nat) (ops : Array Oper) (base : Nat) (i : Nat) (r : Rec) (σ σ' : St) : Prop where
  df : σ'.df = σ.df
  pm : σ'.pm = σ.pm
  rd : σ'.rd = σ.rd
  ex : ∃ o, ops[i]? = some o ∧ SetD σ.tm o.dst r.v σ'.tm ∧ RKOk P T F X B ops (base + i) o r σ.tm σ.H σ'.H

theorem St.with_eq {σ σ' : St} (h1 : σ'.df = σ.df) (h2 : σ'.pm = σ.pm) (h3 : σ'.rd = σ.rd) : σ' = { σ with tm := σ'.tm, H := σ'.H } := by
  obtain ⟨a, b, c, d, e⟩ := σ'
  simp only at h1 h2 h3
  subst h1 h2 h3
  rfl

theorem RStep.opS (hT : TOK P T) (hF : FOK P F) (hX : XOK P X) {i : Nat} {r : Rec} {σ σ' : St} (h : RStep P T F X B ops base i r σ σ') : OpS P B ops i σ .normal σ' := by
  obtain ⟨h1, h2, h3, o, ho, hs, hk⟩ := h
  obtain ⟨tm', df', pm', rd', H'⟩ := σ'
  simp only at h1 h2 h3 hs hk
  subst h1 h2 h3
  obtain ⟨k, v, R, W, U, n0⟩ := r
  simp only at hs
  unfold RKOk at hk
  simp only at hk
  cases k with
  | off =>
    obtain ⟨k1, rfl, rfl, rfl⟩ := hk
    exact OpS.skip ho k1 hs
  | val =>
    obtain ⟨k1, k2, k3, rfl⟩ := hk
    by_cases hW : W = []
    · subst hW
      exact fun g fr cs w rest k hr hm ht => OpS.val hT hF hX ho k1 (hr.h.wf _ (Nat.le_refl _)) k3.slot hs g fr cs w rest k hr hm ht
    · exact OpS.val hT hF hX ho k1 (k2 hW) k3 hs
  | skip =>
    obtain ⟨k1, k2, k3, rfl, rfl⟩ := hk
    by_cases hW : W = []
    · subst hW
      exact fun g fr cs w rest k hr hm ht => OpS.none hT hF hX ho k1 (hr.h.wf _ (Nat.le_refl _)) k3.slot hs g fr cs w rest k hr hm ht
    · exact OpS.none hT hF hX ho k1 (k2 hW) k3 hs
  | call f args =>
    obtain ⟨k1, rfl, k3, k4, _⟩ := hk
    exact fun g fr cs w rest k hr hm ht => OpS.call hT hF hX ho k1 (hr.h.wf _ (Nat.le_refl _)) k3.slot k4 hs g fr cs w rest k hr hm ht
  | pure f args =>
    obtain ⟨k1, rfl, k3, k4, rfl⟩ := hk
    exact fun g fr cs w rest k hr hm ht => OpS.call hT hF hX ho k1 (hr.h.wf _ (Nat.le_refl _)) k3.slot (k4.2 B _) hs g fr cs w rest k hr hm ht

/-- What two operations do to the heap does not meet. -/
def HInd (base i : Nat) (ri : Rec) (j : Nat) (rj : Rec) : Prop :=
  match ri.isCall, rj.isCall with
  | true, true => False
  | true, false => rj.W = [] ∧ ∀ x, x ∈ rj.R → x < ri.n0 ∧ x ∉ ri.U
  | false, true => ri.W = [] ∧ ∀ x, x ∈ ri.R → x < rj.n0 ∧ x ∉ rj.U
  | false, false => (∀ x, x ∈ idxs ri.W → x ≠ base + j ∧ x ∉ rj.R ∧ x ∉ idxs rj.W) ∧ (∀ x, x ∈ idxs rj.W → x ≠ base + i ∧ x ∉ ri.R)

theorem aev_set {tm tm' : Tr AV} {d : Option Tmp} {v : AV} (h : SetD tm d v tm') {x : Operand} (hx : ∀ t, d = some t → x ≠ .tmp t) : aev tm' x = aev tm x := by
  cases d with
  | none =>
    have h : tm' = tm := h
    rw [h]
  | some t =>
    cases x with
    | tmp j =>
      have hne : j ≠ t := fun e => hx t rfl (by rw [e])
      rw [aev_tmp, aev_tmp, h.2 j, if_neg hne]
    | _ => rfl

theorem guardA_set {tm tm' : Tr AV} {d : Option Tmp} {v : AV} (h : SetD tm d v tm') {o : Oper} (hx : ∀ t, d = some t → t ∉ o.looksAt ops) : guardA ops tm' o = guardA ops tm o := by
  cases d with
  | none =>
    have h : tm' = tm := h
    rw [h]
  | some t =>
    rw [guardA_eq, guardA_eq]
    unfold guardM
    cases hg : o.guard with
    | none => rfl
    | some p =>
      obtain ⟨j, want⟩ := p
      simp only
      cases hj : ops[j]? with
      | none => rfl
      | some oj =>
        simp only
        cases hd : oj.dst with
        | none => rfl
        | some d' =>
          have hne : d' ≠ t := fun e => hx t rfl (by subst e; simp [Oper.looksAt, hg, hj, hd])
          simp only
          rw [h.2 d', if_neg hne]

theorem pOp_set {tm tm' : Tr AV} {d : Option Tmp} {v : AV} (h : SetD tm d v tm') {o : Oper} (hx : ∀ t, d = some t → t ∉ o.looksAt ops) : pOp P T F X (aev tm') o = pOp P T F X (aev tm) o :=
  pOp_congr o fun x hm => aev_set h fun t hd hxt => hx t hd (by
    subst hxt
    exact List.mem_append_left _ (List.mem_filterMap.2 ⟨.tmp t, by simpa using hm, rfl⟩))

end
end
end Go.Abs
