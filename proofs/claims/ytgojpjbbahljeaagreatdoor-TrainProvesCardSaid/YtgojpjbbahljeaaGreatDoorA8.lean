/-
  Equality, and the dispatch of binary operations.
-/
import Derived.Test.YtgojpjbbahljeaaGreatDoorA7
/-! Equality, and the dispatch of binary operations. -/
namespace Go.Abs
open Go
noncomputable section

/-- Are two values of a type equal? (Where this text can tell.) -/
def aeqC (P : Program) (T : Tr TypeInfo) : Nat → TypeId → AV → AV → Option Bool
  | 0, _, _, _ => none
  | d + 1, t, x, y =>
    match tyU T t with
    | some .bool => match x with
      | .bool a => match y with
        | .bool b => some (a == b)
        | _ => none
      | _ => none
    | some (.int _) => match x with
      | .int k a => match y with
        | .int k' b => if k = k' then some (a == b) else none
        | _ => none
      | _ => none
    | some .string => match x with
      | .str a => match y with
        | .str b => some (a == b)
        | _ => none
      | _ => none
    | some (.pointer _) => match x with
      | .nilp => match y with
        | .nilp => some true
        | .ptr _ _ => some false
        | .lptr _ _ => some false
        | _ => none
      | .ptr _ _ => match y with
        | .nilp => some false
        | _ => none
      | .lptr _ _ => match y with
        | .nilp => some false
        | _ => none
      | _ => none
    | some (.slice _) => match x with
      | .nils => match y with
        | .nils => some true
        | .lst _ _ _ => some false
        | .slc _ _ _ _ => some false
        | _ => none
      | .lst _ _ _ => match y with
        | .nils => some false
        | _ => none
      | .slc _ _ _ _ => match y with
        | .nils => some false
        | _ => none
      | _ => none
    | some (.map _ _) => match x with
      | .nilm => match y with
        | .nilm => some true
        | .map _ => some false
        | _ => none
      | .map _ => match y with
        | .nilm => some false
        | _ => none
      | _ => none
    | some (.func _ _ _) => match x with
      | .nilf => match y with
        | .nilf => some true
        | .func _ _ _ => some false
        | _ => none
      | .func _ _ _ => match y with
        | .nilf => some false
        | _ => none
      | _ => none
    | some (.interface _) => match x with
      | .nili => match y with
        | .nili => some true
        | .iface _ _ => some false
        | _ => none
      | .iface tx vx => match y with
        | .nili => some false
        | .iface ty vy => if tx = ty then (match T.get tx with
          | some i => if i.comparable then aeqC P T d tx vx vy else none
          | none => none) else some false
        | _ => none
      | _ => none
    | some (.struct fs) => match x with
      | .agg xs => match y with
        | .agg ys => if P.stoodInHeld t then none else aeqF (fun t' x' y' => aeqC P T d t' x' y') T xs ys fs.toList
        | _ => none
      | _ => none
    | _ => none
where
  aeqF (eq : TypeId → AV → AV → Option Bool) (T : Tr TypeInfo) (xs ys : List AV) : List Field → Option Bool
    | [] => some true
    | f :: fs => if f.name = "_" then aeqF eq T xs ys fs else
      match pPart T f.type xs f.offset with
      | some a => match pPart T f.type ys f.offset with
        | some b => match eq f.type a b with
          | some true => aeqF eq T xs ys fs
          | some false => some false
          | none => none
        | none => none
      | none => none

section
variable {P : Program} {T : Tr TypeInfo} {F : Tr Func} {g : Gh} {B : Nat} {w : World} {H : AH} {s : Nat} {ev : Operand → AV} {ρ : Operand → Value} {r : PRes} {R : List Nat} {W : WL}

theorem fieldsOf_eq {t : TypeId} {fs : Array Field} (h : P.underlying t = some (.struct fs)) : P.fieldsOf t = fs := by
  simp [Program.fieldsOf, h]

theorem aeqF_ok (hT : TOK P T) {eq : TypeId → AV → AV → Option Bool} {d : Nat}
    (heq : ∀ t x y b, eq t x y = some b → ∀ u v, VRel g w x u → VRel g w y v → (Op.equalIn d t u v).run P w = .ok b w)
    {xs ys : List AV} {vx vy : Array Value} (hx : VRels g w xs vx.toList) (hy : VRels g w ys vy.toList) :
    ∀ (fs : List Field) (b : Bool), aeqC.aeqF eq T xs ys fs = some b → (Op.eqFields d vx vy fs).run P w = .ok b w
  | [], b, h => by simp only [aeqC.aeqF, Option.some.injEq] at h; subst h; simp [Op.eqFields]
  | f :: fs, b, h => by
    unfold aeqC.aeqF at h
    unfold Op.eqFields
    split at h
    · rename_i hn
      rw [if_neg (by simp [hn])]
      exact aeqF_ok hT heq hx hy fs b h
    · rename_i hn
      rw [if_pos (by simpa using hn)]
      split at h
      · rename_i a ha
        split at h
        · rename_i a' ha'
          obtain ⟨u, h1, h2, _⟩ := pPart_ok hT ha hx (Lives.any xs)
          obtain ⟨v, h3, h4, _⟩ := pPart_ok hT ha' hy (Lives.any ys)
          split at h
          · rename_i he
            have := heq _ _ _ _ he u v h2 h4
            simp [h1, h3, this, aeqF_ok hT heq hx hy fs b h]
          · rename_i he
            simp only [Option.some.injEq] at h
            subst h
            have := heq _ _ _ _ he u v h2 h4
            simp [h1, h3, this]
          · cases h
        · cases h
      · cases h

set_option maxHeartbeats 4000000 in
theorem aeqC_ok (hT : TOK P T) : ∀ (d : Nat) (t : TypeId) (x y : AV) (b : Bool), aeqC P T d t x y = some b → ∀ u v, VRel g w x u → VRel g w y v → ∀ k, (Op.equalIn (d + k) t u v).run P w = .ok b w
  | 0, _, _, _, _, h => by simp [aeqC] at h
  | d + 1, t, x, y, b, h => by
    intro u v hu hv k
    rw [show d + 1 + k = d + k + 1 by omega]
    unfold aeqC at h
    split at h
    · rename_i ht
      have ht' := tyU_ok hT ht
      split at h <;> try cases h
      split at h <;> cases h
      simp only [VRel] at hu hv
      subst hu; subst hv
      exact run_equalIn_bool' w _ t _ _ ht'
    · rename_i ht
      have ht' := tyU_ok hT ht
      split at h <;> try cases h
      split at h <;> try cases h
      split at h <;> cases h
      rename_i e
      subst e
      simp only [VRel] at hu hv
      subst hu; subst hv
      exact run_equalIn_int w _ t _ _ _ _ ht'
    · rename_i ht
      have ht' := tyU_ok hT ht
      split at h <;> try cases h
      split at h <;> cases h
      simp only [VRel] at hu hv
      subst hu; subst hv
      rw [run_equalIn_string w _ t _ _ ht']
      simp
    · rename_i ht
      have ht' := run_underlying_ok hT ht w
      split at h <;> try cases h
      all_goals (split at h <;> cases h)
      all_goals simp only [VRel] at hu hv
      all_goals first
        | (subst hu; subst hv; simp [Op.equalIn, ht'])
        | (subst hu; obtain ⟨_, _, e, _⟩ := hv; subst e; simp [Op.equalIn, ht'])
        | (subst hv; obtain ⟨_, _, e, _⟩ := hu; subst e; simp [Op.equalIn, ht'])
    · rename_i ht
      have ht' := run_underlying_ok hT ht w
      split at h <;> try cases h
      all_goals (split at h <;> cases h)
      all_goals simp only [VRel] at hu hv
      all_goals first
        | (subst hu; subst hv; simp [Op.equalIn, ht'])
        | (subst hu; obtain ⟨_, _, _, e, _⟩ := hv; subst e; simp [Op.equalIn, ht'])
        | (subst hv; obtain ⟨_, _, _, e, _⟩ := hu; subst e; simp [Op.equalIn, ht'])
    · rename_i ht
      have ht' := run_underlying_ok hT ht w
      split at h <;> try cases h
      all_goals (split at h <;> cases h)
      all_goals simp only [VRel] at hu hv
      all_goals (subst hu; subst hv; simp [Op.equalIn, ht'])
    · rename_i ht
      have ht' := run_underlying_ok hT ht w
      split at h <;> try cases h
      all_goals (split at h <;> cases h)
      all_goals simp only [VRel] at hu hv
      all_goals first
        | (subst hu; subst hv; simp [Op.equalIn, ht'])
        | (subst hu; obtain ⟨_, _, e, _⟩ := hv; subst e; simp [Op.equalIn, ht'])
        | (subst hv; obtain ⟨_, _, e, _⟩ := hu; subst e; simp [Op.equalIn, ht'])
    · rename_i ht
      have ht' := run_underlying_ok hT ht w
      split at h
      · split at h <;> cases h
        all_goals simp only [VRel] at hu hv
        · subst hu; subst hv; simp [Op.equalIn, ht']
        · subst hu; obtain ⟨_, e, _⟩ := hv; subst e; simp [Op.equalIn, ht']
      · split at h
        · cases h
          simp only [VRel] at hu hv
          subst hv; obtain ⟨_, e, _⟩ := hu; subst e; simp [Op.equalIn, ht']
        · simp only [VRel] at hu hv
          obtain ⟨u', eu, hu⟩ := hu
          obtain ⟨v', ev, hv⟩ := hv
          subst eu; subst ev
          split at h
          · rename_i e
            subst e
            split at h
            · rename_i i hi
              split at h
              · rename_i hc
                have ih := aeqC_ok hT d _ _ _ _ h u' v' hu hv k
                simp [Op.equalIn, ht', run_typeInfo_ok hT hi, hc, ih]
              · cases h
            · cases h
          · rename_i e
            cases h
            simp [Op.equalIn, ht', e]
        · cases h
      · cases h
    · rename_i fs ht
      have ht' := tyU_ok hT ht
      split at h <;> try cases h
      split at h <;> try cases h
      split at h <;> try cases h
      rename_i hs
      simp only [VRel] at hu hv
      obtain ⟨vx, ex, hx⟩ := hu
      obtain ⟨vy, ey, hy⟩ := hv
      subst ex; subst ey
      have hs' : P.stoodInHeld t = false := by simpa using hs
      rw [run_equalIn_struct w (d + k) t vx vy (by rw [fieldsOf_eq ht']; exact ht') hs', fieldsOf_eq ht']
      exact aeqF_ok hT (fun t' x' y' b' h' u' v' hu' hv' => aeqC_ok hT d t' x' y' b' h' u' v' hu' hv' k) hx hy fs.toList b h
    · cases h

/-- Is an operand a constant? -/
def isConstOp : Operand → Bool
  | .const _ => true
  | _ => false

def guardFree (P : Program) (t : TypeId) (cst : Bool) (x y : AV) : Bool :=
  match x with
  | .nili => match y with
    | .nili => cst
    | .iface _ _ => true
    | _ => false
  | .agg _ => !(P.eqGuardType P.depth t)
  | .unk => false
  | _ => true

/-- The functions of the library without a Go body that are known here. -/
inductive ExtK where
  | count
  | indexByte

/-- What is handed in: those functions; how values that are no numbers and no strings are held against each other. -/
structure XT where
  ext : FuncId → Option ExtK
  eqv : TypeId → Bool → AV → AV → Option Bool

def QOK (P : Program) (q : TypeId → Bool → AV → AV → Option Bool) : Prop :=
  ∀ t cst x y b, q t cst x y = some b → guardFree P t cst x y = true ∧ ∃ T, TOK P T ∧ aeqC P T 8 t x y = some b

def eqvOf (P : Program) (T : Tr TypeInfo) (t : TypeId) (cst : Bool) (x y : AV) : Option Bool :=
  match guardFree P t cst x y with
  | true => aeqC P T 8 t x y
  | false => none

theorem eqvOf_ok {P : Program} {T : Tr TypeInfo} (hT : TOK P T) : QOK P (eqvOf P T) := by
  intro t cst x y b h
  unfold eqvOf at h
  split at h
  · rename_i hg
    exact ⟨hg, T, hT, h⟩
  · cases h

def pEq (X : XT) (neg : Bool) (t : TypeId) (cst : Bool) (x y : AV) : Plan :=
  match X.eqv t cst x y with
  | some b => .ret (.bool (match neg with
    | true => !b
    | false => b))
  | none => .fail

def pBin (X : XT) (op : BinOp) (t : TypeId) (cst : Bool) (x y : AV) : Plan :=
  match x with
  | .int k a => match y with
    | .int k' b => match isShift op with
      | true => pShift op k a b
      | false => .chk (decide (k = k')) (pInt op k a b)
    | _ => .fail
  | .str a => match y with
    | .str b => pStr op a b
    | _ => .fail
  | x => match op with
    | .eql => pEq X false t cst x y
    | .neq => pEq X true t cst x y
    | _ => .fail

theorem run_eqGuard_any (op : BinOp) (t : TypeId) (x y : Operand) (xs : Array Value) (v : Value) (hm : P.eqGuardType P.depth t = false) : (eqGuard op t x y (.agg xs) v).run P w = .ok () w := by
  cases op <;> cases v <;> simp [eqGuard, run_program, hm]

theorem isConstOp_eq {x : Operand} (h : isConstOp x = true) : ∃ v, x = .const v := by
  cases x <;> simp [isConstOp] at h
  exact ⟨_, rfl⟩

theorem eqGuard_eq {op : BinOp} (hop : op = .eql ∨ op = .neq) {t : TypeId} {x y : Operand} {a b : AV} {u v : Value} (h : guardFree P t (isConstOp x || isConstOp y) a b = true)
    (hu : VRel g w a u) (hv : VRel g w b v) : (eqGuard op t x y u v).run P w = .ok () w := by
  unfold guardFree at h
  split at h
  · simp only [VRel] at hu
    subst hu
    split at h
    · simp only [VRel] at hv
      subst hv
      rcases Bool.or_eq_true _ _ ▸ h with h | h
      · obtain ⟨v, rfl⟩ := isConstOp_eq h
        rcases hop with rfl | rfl <;> simp [eqGuard]
      · obtain ⟨v, rfl⟩ := isConstOp_eq h
        rcases hop with rfl | rfl <;> simp [eqGuard]
    · obtain ⟨v', e, _⟩ := hv
      subst e
      rcases hop with rfl | rfl <;> simp [eqGuard]
    · cases h
  · obtain ⟨vs, e, _⟩ := hu
    subst e
    have h : P.eqGuardType P.depth t = false := by simpa using h
    exact run_eqGuard_any op t x y vs v h
  · cases h
  · rename_i h1 h2 h3
    cases a <;> simp only [VRel] at hu <;> first
      | exact absurd rfl (h1 _)
      | exact absurd rfl (h1)
      | exact absurd rfl (h2 _)
      | exact absurd rfl (h3)
      | (subst hu; rcases hop with rfl | rfl <;> simp [eqGuard]; done)
      | (obtain ⟨_, e, _⟩ := hu; subst e; rcases hop with rfl | rfl <;> simp [eqGuard]; done)
      | (obtain ⟨_, _, e, _⟩ := hu; subst e; rcases hop with rfl | rfl <;> simp [eqGuard]; done)
      | (obtain ⟨_, _, _, e, _⟩ := hu; subst e; rcases hop with rfl | rfl <;> simp [eqGuard]; done)

theorem binOp_eql_ok {t : TypeId} {a : AV} {u v : Value} (hu : VRel g w a u) (h1 : ∀ k n, a ≠ .int k n) (h2 : ∀ l, a ≠ .str l) (h3 : a ≠ .unk) :
    binOp .eql t u v = (do pure (.bool (← Op.equal t u v))) ∧ binOp .neq t u v = (do pure (.bool (!(← Op.equal t u v)))) := by
  cases a <;> simp only [VRel] at hu <;> first
      | exact absurd rfl (h1 _ _)
      | exact absurd rfl (h2 _)
      | exact absurd rfl h3
      | (subst hu; exact ⟨rfl, rfl⟩)
      | (obtain ⟨_, e, _⟩ := hu; subst e; exact ⟨rfl, rfl⟩)
      | (obtain ⟨_, _, e, _⟩ := hu; subst e; exact ⟨rfl, rfl⟩)
      | (obtain ⟨_, _, _, e, _⟩ := hu; subst e; exact ⟨rfl, rfl⟩)

theorem aeqC_unk {d : Nat} {t : TypeId} {y : AV} {b : Bool} (h : aeqC P T d t .unk y = some b) : False := by
  cases d with
  | zero => simp [aeqC] at h
  | succ d =>
    unfold aeqC at h
    split at h <;> cases h

def negOp : Bool → BinOp
  | true => .neq
  | false => .eql

theorem pEq_ok (c : OCtx P T F g B w H s ev ρ) {X : XT} (hX : QOK P X.eqv) {t : TypeId} {x y : Operand} {neg : Bool} (h : EvF s (pEq X neg t (isConstOp x || isConstOp y) (ev x) (ev y)) H.o r R W)
    (h1 : ∀ k n, ev x ≠ .int k n) (h2 : ∀ l, ev x ≠ .str l) :
    OpRes g B w H W ((do let v ← (do eqGuard (negOp neg) t x y (ρ x) (ρ y); binOp (negOp neg) t (ρ x) (ρ y)); pure (.value v) : Sem Next).run P w) r := by
  unfold pEq at h
  split at h
  · rename_i b hq
    obtain ⟨hg, T', hT', hb⟩ := hX _ _ _ _ _ hq
    obtain ⟨rfl, rfl⟩ := evF_ret h
    have h3 : ev x ≠ .unk := fun e => by rw [e] at hb; exact aeqC_unk hb
    have e1 := aeqC_ok hT' 8 t _ _ b hb _ _ (c.rel x) (c.rel y) 9992
    obtain ⟨e2, e3⟩ := binOp_eql_ok (t := t) (v := ρ y) (c.rel x) h1 h2 h3
    have e4 := eqGuard_eq (op := negOp neg) (by cases neg <;> simp [negOp]) hg (c.rel x) (c.rel y)
    have e5 : (Op.equal t (ρ x) (ρ y)).run P w = .ok b w := e1
    cases neg
    · refine OpRes.pure c.h (u := .bool b) ?_ (by simp [VRel]) trivial
      simp only [negOp] at e4 ⊢
      simp [e4, e2, e5]
    · refine OpRes.pure c.h (u := .bool (!b)) ?_ (by simp [VRel]) trivial
      simp only [negOp] at e4 ⊢
      simp [e4, e3, e5]
  · exact h.elim

theorem pBin_ok (c : OCtx P T F g B w H s ev ρ) {X : XT} (hX : QOK P X.eqv) {t : TypeId} {x y : Operand} {op : BinOp} (h : EvF s (pBin X op t (isConstOp x || isConstOp y) (ev x) (ev y)) H.o r R W) :
    OpRes g B w H W ((do let v ← (do eqGuard op t x y (ρ x) (ρ y); binOp op t (ρ x) (ρ y)); pure (.value v) : Sem Next).run P w) r := by
  have hx := c.rel x
  have hy := c.rel y
  unfold pBin at h
  split at h
  · rename_i k a ex
    rw [ex] at hx
    simp only [VRel] at hx
    split at h
    · rename_i k' b ey
      rw [ey] at hy
      simp only [VRel] at hy
      have hg : (eqGuard op t x y (.int k a) (.int k' b)).run P w = .ok () w := by cases op <;> simp [eqGuard]
      rw [hx, hy]
      split at h
      · have := pShift_ok (P := P) c.h (k' := k') (t := t) h
        simpa [hg] using this
      · obtain ⟨hk, h⟩ := h
        have hk := of_decide_eq_true hk
        subst hk
        have := pInt_ok (P := P) c.h (t := t) h
        simpa [hg] using this
    · exact h.elim
  · rename_i a ex
    rw [ex] at hx
    simp only [VRel] at hx
    split at h
    · rename_i b ey
      rw [ey] at hy
      simp only [VRel] at hy
      have hg : (eqGuard op t x y (.string ⟨a.toArray⟩) (.string ⟨b.toArray⟩)).run P w = .ok () w := by cases op <;> simp [eqGuard]
      rw [hx, hy]
      have := pStr_ok (P := P) c.h (t := t) h
      simpa [hg] using this
    · exact h.elim
  · rename_i h1 h2
    split at h
    · exact pEq_ok (neg := false) c hX h h1 h2
    · exact pEq_ok (neg := true) c hX h h1 h2
    · exact h.elim

end
end
end Go.Abs
