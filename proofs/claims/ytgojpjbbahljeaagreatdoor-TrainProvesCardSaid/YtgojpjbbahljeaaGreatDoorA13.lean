/-
  copy, maps, strings walked.
-/
import Derived.Test.YtgojpjbbahljeaaGreatDoorA12
/-! copy, maps, strings walked. -/
namespace Go.Abs
open Go
noncomputable section

section
variable {P : Program} {T : Tr TypeInfo} {F : Tr Func} {g : Gh} {B : Nat} {w : World} {H : AH} {s : Nat} {ev : Operand → AV} {ρ : Operand → Value} {r : PRes} {R : List Nat} {W : WL}

def pCopyTo (e : TypeId) (d : AV) (l : List AV) (n : Nat) : Plan :=
  match d with
  | .slc o off _ _ => .get o fun y => match y with
    | .cells _ _ ty => .chk (decide (ty = e)) (.chk (allCells l) (.setcs o off l (.ret (.int .i64 n))))
    | _ => .fail
  | _ => .fail

def pCopy (T : Tr TypeInfo) (t : TypeId) (d x : AV) : Plan :=
  match tyU T t with
  | some (.slice e) => match T.get e with
    | some i => .chk (decide (i.size = 1)) (match d with
      | .slc _ _ len _ => match x with
        | .lst ys m _ => match takeN (Nat.min m len) ys with
          | some l => pCopyTo e d l (Nat.min m len)
          | none => .fail
        | .slc o' off' m _ => .get o' fun y => match y with
          | .cells tr k _ => .chk (decide (off' + Nat.min m len ≤ k)) (match loadN tr off' (Nat.min m len) with
            | some l => pCopyTo e d l (Nat.min m len)
            | none => .fail)
          | _ => .fail
        | .nils => .ret (.int .i64 0)
        | _ => .fail
      | _ => .fail)
    | none => .fail
  | _ => .fail

theorem pCopyTo_ok (c : OCtx P T F g B w H s ev ρ) {t tx ty e : TypeId} {i : TypeInfo} {d : Operand} {o off len cap : Nat} {l : List AV} {cs : List Value} {a : Addr} {m xcap : Nat} {o' : Nat → AObj}
    (hd : ev d = .slc o off len cap) (ho' : o' = H.o) (h : EvF s (pCopyTo e (ev d) l (Nat.min m len)) o' r R W) (hu : P.underlying t = some (.slice e)) (hi : P.info? e = some i) (hs : i.size = 1)
    (hlen : cs.length = Nat.min m len) (hcs : ∀ (j : Nat) v, cs[j]? = some v → w.cell? (a.add j) = some v) (hv : VRels g w l cs) (hl : Lives H.L l) :
    OpRes g B w H W ((do let v ← Builtin.copy_ #[t, tx] ty #[ρ d, .slice (some a) m xcap]; pure (.value v) : Sem Next).run P w) r := by
  subst ho'
  have hx := c.rel d
  rw [hd] at hx h
  simp only [VRel] at hx
  obtain ⟨R', _, h⟩ := h
  simp only at h
  split at h <;> try exact h.elim
  rename_i tr n ty' ho
  obtain ⟨h1, h2, R2, W', tr', n', ty'', t', _, hoo, hn, hts, rfl, h⟩ := h
  obtain ⟨rfl, rfl⟩ := evF_ret h
  have h1 := of_decide_eq_true h1
  subst h1
  rw [ho] at hoo
  injection hoo with e1 e2 e3
  subst e1; subst e2; subst e3
  obtain ⟨arr, f1, f2, f3⟩ := c.h.setCells ho hn hts hv hl
  have hvl := hv.length
  have hrun := run_copy_row (P := P) w t tx ty ty' (g.ob o) off len cap a m xcap arr ty' cs hu (by simp [hi, hs]) f1 hlen hcs (by omega) (allCells_ok h2 hv)
  refine ⟨.int .i64 (Nat.min m len), g, _, ?_, f3, by simp [VRel], trivial⟩
  simp [hx, hrun, goInt, hlen]

theorem pCopy_ok (c : OCtx P T F g B w H s ev ρ) {t tx ty : TypeId} {d x : Operand} (h : EvF s (pCopy T t (ev d) (ev x)) H.o r R W) :
    OpRes g B w H W ((do let v ← Builtin.copy_ #[t, tx] ty #[ρ d, ρ x]; pure (.value v) : Sem Next).run P w) r := by
  have hx := c.rel x
  have hl := c.live x
  unfold pCopy at h
  split at h <;> try exact h.elim
  rename_i e hu
  have hu' := tyU_ok c.T hu
  split at h <;> try exact h.elim
  rename_i i hi
  have hi' := c.T _ _ hi
  obtain ⟨hs, h⟩ := h
  have hs := of_decide_eq_true hs
  split at h <;> try exact h.elim
  rename_i o off len cap ed
  split at h
  · rename_i ys m own ex
    rw [ex] at hx hl
    simp only [VRel] at hx
    obtain ⟨b, off', xcap, e1, g1, g2, g3, g4⟩ := hx
    split at h <;> try exact h.elim
    rename_i l hln
    obtain ⟨k1, k2⟩ := takeN_eq hln
    obtain ⟨cs, f1, f2, f3⟩ := g3.piece (off := 0) (by simpa using k1) k2
    rw [e1]
    exact pCopyTo_ok c ed rfl h hu' hi' hs f1 (by simpa using f2) f3 (by rw [k1]; exact Lives.take hl.1 _)
  · rename_i o' off' m xcap ex
    rw [ex] at hx
    simp only [VRel] at hx
    obtain ⟨R', _, h⟩ := h
    simp only at h
    split at h <;> try exact h.elim
    rename_i tr k ty' ho
    obtain ⟨hb, h⟩ := h
    have hb := of_decide_eq_true hb
    split at h <;> try exact h.elim
    rename_i l hln
    obtain ⟨k1, k2⟩ := loadN_ok hln
    obtain ⟨cs, f1, f2, f3, f4⟩ := c.h.cellsAt ho hb k1 k2
    rw [hx]
    exact pCopyTo_ok c ed rfl h hu' hi' hs f1 f2 f3 f4
  · rename_i ex
    rw [ex] at hx
    simp only [VRel] at hx
    have hd := c.rel d
    rw [ed] at hd
    simp only [VRel] at hd
    obtain ⟨rfl, rfl⟩ := evF_ret h
    refine OpRes.pure c.h (u := .int .i64 0) ?_ (by simp [VRel]) trivial
    simp [Builtin.copy_, run_underlying hu', sizeOf, typeInfo, hi', Builtin.lenOf, hx, hd, Builtin.firstCells, storeCells, goInt]
  · exact h.elim

/-! ### Maps -/

def pMakeMap : Plan := .newo (.mapo []) fun i => .ret (.map i)

theorem pMakeMap_ok (c : OCtx P T F g B w H s ev ρ) {t : TypeId} (h : EvF s pMakeMap H.o r R W) :
    OpRes g B w H W ((do let v ← Instr.makeMap t none; pure (.value v) : Sem Next).run P w) r := by
  obtain ⟨W', rfl, h⟩ := h
  obtain ⟨rfl, rfl⟩ := evF_ret h
  obtain ⟨g', e1, e2⟩ := c.h.newOb c.s (x := .mapo []) (by simp) (fun _ _ => rfl) (.map #[] 0) 0 (by
    intro g' f1 f2 _ _
    exact ⟨#[], 0, by rw [f1]; exact heap_alloc_new _ _, by rw [f1]; exact f2, by simp [MRel]⟩) trivial (by intro p hp; cases hp)
  refine ⟨.map (some w.heap.size), g', _, rfl, e1, ?_, AH.put_L_same H s _ (by simp)⟩
  simp only [VRel]; rw [e2]

/-- Is a value one that may be a key? -/
def ckey (T : Tr TypeInfo) : Nat → TypeId → AV → Bool
  | 0, _, _ => false
  | d + 1, t, v =>
    match tyU T t with
    | some (.interface _) => false
    | some (.array _ _) => false
    | some (.struct fs) => match v with
      | .agg cs => ckeyF (fun t' v' => ckey T d t' v') T cs fs.toList
      | _ => false
    | some _ => true
    | none => false
where
  ckeyF (k : TypeId → AV → Bool) (T : Tr TypeInfo) (cs : List AV) : List Field → Bool
    | [] => true
    | f :: fs => match pPart T f.type cs f.offset with
      | some a => match k f.type a with
        | true => ckeyF k T cs fs
        | false => false
      | none => false

theorem ckey_ok (hT : TOK P T) (em : Bool) : ∀ (d : Nat) (t : TypeId) (a : AV) (v : Value), ckey T d t a = true → VRel g w a v → ∀ k, (Instr.checkKey em (d + k) t v).run P w = .ok () w
  | 0, _, _, _, h, _ => by simp [ckey] at h
  | d + 1, t, a, v, h, hv => by
    intro k
    rw [show d + 1 + k = d + k + 1 by omega]
    unfold ckey at h
    split at h
    · cases h
    · cases h
    · rename_i fs hu
      have hu' := run_underlying_ok hT hu w
      split at h <;> try cases h
      rename_i cs
      obtain ⟨vs, e, hvs⟩ := hv
      subst e
      rw [Instr.checkKey]
      simp only [Sem.run_bind, hu', Result.andThen_ok]
      rw [← Array.forIn_toList]
      generalize fs.toList = L at h ⊢
      induction L with
      | nil => simp
      | cons f L ih =>
        simp only [ckey.ckeyF] at h
        split at h <;> try cases h
        rename_i a ha
        split at h <;> try cases h
        rename_i hk
        obtain ⟨u, h1, h2, _⟩ := pPart_ok hT ha hvs (Lives.any cs)
        have h3 := ckey_ok hT em d f.type a u hk h2 k
        by_cases hn : f.name = "_"
        · simp only [List.forIn_cons, Sem.run_bind, hn, ne_eq, not_true_eq_false, if_false, Sem.run_pure, Result.andThen_ok]
          exact ih h
        · simp only [List.forIn_cons, Sem.run_bind, hn, ne_eq, not_false_eq_true, if_true, h1, h3, Sem.run_pure, Result.andThen_ok]
          exact ih h
    · rename_i dd hn1 hn2 hn3 hu
      have hu' := run_underlying_ok hT hu w
      rw [Instr.checkKey]
      simp only [Sem.run_bind, hu', Result.andThen_ok]
      cases dd <;> first
        | exact absurd rfl (hn1 _)
        | exact absurd rfl (hn2 _ _)
        | exact absurd rfl (hn3 _)
        | rfl
    · cases h

/-- Where a key lies. -/
def findA (P : Program) (T : Tr TypeInfo) (kt : TypeId) (k : AV) : List (AV × AV) → Nat → Option (Option (Nat × AV))
  | [], _ => some none
  | (k', v) :: es, i => match aeqC P T 8 kt k k' with
    | some true => some (some (i, v))
    | some false => findA P T kt k es (i + 1)
    | none => none

theorem sameNow_aeq {kt : TypeId} {kd : TypeDesc} (hu : tyU T kt = some kd) {d : Nat} {k k' : AV} {u u' : Value} (hk : VRel g w k u) (hk' : VRel g w k' u') {b b' : Bool}
    (h : Instr.sameNow kd u u' = some b) (ha : aeqC P T (d + 1) kt k k' = some b') : b = b' := by
  unfold aeqC at ha
  rw [hu] at ha
  unfold Instr.sameNow at h
  split at h
  · simp only at ha
    split at ha <;> try cases ha
    split at ha <;> try cases ha
    simp only [VRel] at hk hk'
    injection hk with e1 e2
    injection hk' with e3 e4
    subst e1; subst e2; subst e3; subst e4
    split at h <;> try cases h
    split at ha <;> cases ha
    all_goals rfl
  · simp only at ha
    split at ha <;> try cases ha
    split at ha <;> try cases ha
    simp only [VRel] at hk hk'
    injection hk with e1
    injection hk' with e2
    subst e1; subst e2
    simp only [Option.some.injEq] at h
    subst h
    rw [beq_toListBytes]
    simp
  · simp only at ha
    split at ha <;> try cases ha
    split at ha <;> try cases ha
    simp only [VRel] at hk hk'
    injection hk with e1
    injection hk' with e2
    subst e1; subst e2
    simp only [Option.some.injEq] at h
    exact h.symm
  · cases h

theorem findNow_ok (hT : TOK P T) {kt : TypeId} {kd : TypeDesc} (hu : tyU T kt = some kd) {k : AV} {u : Value} (hk : VRel g w k u) : ∀ (es : List (AV × AV)) (ces : List MapEntry) (i : Nat)
    (res : Option (Nat × AV)) (cr : Option (Nat × Value)), MRel g w es ces → findA P T kt k es i = some res → Instr.findNow kd u ces i = some cr →
    match res with
    | none => cr = none
    | some (j, a) => ∃ v, cr = some (j, v) ∧ VRel g w a v ∧ i ≤ j ∧ ∃ k', es[j - i]? = some (k', a)
  | [], ces, i, res, cr, hm, h, hc => by
    simp only [MRel] at hm
    subst hm
    simp only [findA, Option.some.injEq] at h
    subst h
    simp only [Instr.findNow, Option.some.injEq] at hc
    exact hc.symm
  | (k', v) :: es, ces, i, res, cr, hm, h, hc => by
    obtain ⟨e, es', e1, h1, h2, h3⟩ := hm
    subst e1
    simp only [Instr.findNow] at hc
    simp only [findA] at h
    split at hc
    · rename_i hs
      simp only [Option.some.injEq] at hc
      subst hc
      split at h
      · simp only [Option.some.injEq] at h
        subst h
        exact ⟨_, rfl, h2, Nat.le_refl _, k', by simp⟩
      · rename_i ha
        have := sameNow_aeq (P := P) (d := 7) hu hk h1 hs ha
        cases this
      · cases h
    · rename_i hs
      split at h
      · rename_i ha
        have := sameNow_aeq (P := P) (d := 7) hu hk h1 hs ha
        cases this
      · have := findNow_ok hT hu hk es es' (i + 1) res cr h3 h hc
        cases res with
        | none => exact this
        | some p =>
          obtain ⟨v', q1, q2, q3, k'', q4⟩ := this
          refine ⟨v', q1, q2, by omega, k'', ?_⟩
          rw [show p.1 - i = p.1 - (i + 1) + 1 by omega]
          simpa using q4
      · cases h
    · cases hc

theorem findAsking_ok (hT : TOK P T) {kt : TypeId} {k : AV} {u : Value} (hk : VRel g w k u) : ∀ (es : List (AV × AV)) (ces : List MapEntry) (i : Nat)
    (res : Option (Nat × AV)), MRel g w es ces → findA P T kt k es i = some res →
    ∃ cr, (Instr.findAsking kt u ces i).run P w = .ok cr w ∧ match res with
    | none => cr = none
    | some (j, a) => ∃ v, cr = some (j, v) ∧ VRel g w a v ∧ i ≤ j ∧ ∃ k', es[j - i]? = some (k', a)
  | [], ces, i, res, hm, h => by
    simp only [MRel] at hm
    subst hm
    simp only [findA, Option.some.injEq] at h
    subst h
    exact ⟨none, rfl, rfl⟩
  | (k', v) :: es, ces, i, res, hm, h => by
    obtain ⟨e, es', e1, h1, h2, h3⟩ := hm
    subst e1
    simp only [findA] at h
    split at h
    · rename_i ha
      simp only [Option.some.injEq] at h
      subst h
      have : (Op.equal kt u e.key).run P w = .ok true w := aeqC_ok hT 8 kt k k' true ha u e.key hk h1 9992
      exact ⟨some (i, e.val), by simp [Instr.findAsking, this], e.val, rfl, h2, Nat.le_refl _, k', by simp⟩
    · rename_i ha
      have : (Op.equal kt u e.key).run P w = .ok false w := aeqC_ok hT 8 kt k k' false ha u e.key hk h1 9992
      obtain ⟨cr, q0, q⟩ := findAsking_ok hT hk es es' (i + 1) res h3 h
      refine ⟨cr, by simp [Instr.findAsking, this, q0], ?_⟩
      cases res with
      | none => exact q
      | some p =>
        obtain ⟨v', q1, q2, q3, k'', q4⟩ := q
        refine ⟨v', q1, q2, by omega, k'', ?_⟩
        rw [show p.1 - i = p.1 - (i + 1) + 1 by omega]
        simpa using q4
    · cases h

theorem findKey_ok (hT : TOK P T) {kt : TypeId} {kd : TypeDesc} (hu : tyU T kt = some kd) {k : AV} {u : Value} (hk : VRel g w k u) {es : List (AV × AV)} {ces : List MapEntry}
    {res : Option (Nat × AV)} (hm : MRel g w es ces) (h : findA P T kt k es 0 = some res) :
    ∃ cr, (Instr.findKey kt u ces).run P w = .ok cr w ∧ match res with
    | none => cr = none
    | some (j, a) => ∃ v, cr = some (j, v) ∧ VRel g w a v ∧ ∃ k', es[j]? = some (k', a) := by
  have hu' := run_underlying_ok hT hu w
  unfold Instr.findKey
  cases hn : Instr.findNow kd u ces 0 with
  | some cr =>
    have := findNow_ok hT hu hk es ces 0 res cr hm h hn
    refine ⟨cr, by simp [hu', hn], ?_⟩
    cases res with
    | none => exact this
    | some p =>
      obtain ⟨v, q1, q2, _, k', q4⟩ := this
      exact ⟨v, q1, q2, k', by simpa using q4⟩
  | none =>
    obtain ⟨cr, q0, q⟩ := findAsking_ok hT hk es ces 0 res hm h
    refine ⟨cr, by simp [hu', hn, q0], ?_⟩
    cases res with
    | none => exact q
    | some p =>
      obtain ⟨v, q1, q2, _, k', q4⟩ := q
      exact ⟨v, q1, q2, k', by simpa using q4⟩

def pairV (ok : Bool) (v : AV) (b : Bool) : AV :=
  match ok with
  | true => .tup [v, .bool b]
  | false => v

def pLookup (P : Program) (T : Tr TypeInfo) (t : TypeId) (x k : AV) (ok : Bool) : Plan :=
  match tyU T t with
  | some (.map kt et) => match tyU T kt with
    | some _ => .chk (ckey T 8 kt k) (match T.get et with
      | some i => match i.zero with
        | some z => match x with
          | .nilm => .ret (pairV ok (ofV z) false)
          | .map o => .get o fun y => match y with
            | .mapo es => match findA P T kt k es 0 with
              | some (some (_, v)) => .ret (pairV ok v true)
              | some none => .ret (pairV ok (ofV z) false)
              | none => .fail
            | _ => .fail
          | _ => .fail
        | none => .fail
      | none => .fail)
    | none => .fail
  | _ => .fail

theorem pairV_rel {ok : Bool} {v : AV} {u : Value} {b : Bool} (h : VRel g w v u) : VRel g w (pairV ok v b) (if ok then .tuple #[u, .bool b] else u) := by
  cases ok
  · exact h
  · simp only [pairV, if_true, VRel]
    exact ⟨_, rfl, by simp [VRels, VRel, h]⟩
theorem pairV_live {L : Nat → Prop} {ok : Bool} {v : AV} {b : Bool} (h : Live L v) : Live L (pairV ok v b) := by
  cases ok
  · exact h
  · exact ⟨h, trivial, trivial⟩

theorem MLive.at {L : Nat → Prop} : ∀ (es : List (AV × AV)) (j : Nat) (k v : AV), MLive L es → es[j]? = some (k, v) → Live L k ∧ Live L v
  | (k', v') :: es, 0, k, v, h, hj => by simp at hj; obtain ⟨rfl, rfl⟩ := hj; exact ⟨h.1, h.2.1⟩
  | (k', v') :: es, j + 1, k, v, h, hj => MLive.at es j k v h.2.2 (by simpa using hj)

theorem pLookup_ok (c : OCtx P T F g B w H s ev ρ) {t : TypeId} {x k : Operand} {ok : Bool} (h : EvF s (pLookup P T t (ev x) (ev k) ok) H.o r R W) :
    OpRes g B w H W ((do let v ← Instr.lookup t (ρ x) (ρ k) ok; pure (.value v) : Sem Next).run P w) r := by
  have hx := c.rel x
  have hk := c.rel k
  unfold pLookup at h
  split at h <;> try exact h.elim
  rename_i kt et hu
  have hu' := run_underlying_ok c.T hu w
  split at h <;> try exact h.elim
  rename_i kd hkd
  obtain ⟨hck, h⟩ := h
  have hck' := fun em => ckey_ok c.T em 8 kt _ _ hck hk 9992
  split at h <;> try exact h.elim
  rename_i i hi
  split at h <;> try exact h.elim
  rename_i z hz
  have hz' := run_zeroValue_ok c.T hi hz w
  split at h
  · rename_i ex
    rw [ex] at hx
    simp only [VRel] at hx
    obtain ⟨rfl, rfl⟩ := evF_ret h
    refine OpRes.pure c.h ?_ (pairV_rel (ofV_rel g w z)) (pairV_live (ofV_live _ z))
    obtain ⟨cr, q0, q⟩ := findKey_ok (es := []) c.T hkd hk (ces := []) (res := none) (by simp [MRel]) rfl
    simp only at q
    subst q
    have h1 := hck' true
    cases ok <;> simp [Instr.lookup, hu', hx, h1, q0, hz']
  · rename_i o ex
    rw [ex] at hx
    simp only [VRel] at hx
    obtain ⟨R', _, h⟩ := h
    simp only at h
    split at h <;> try exact h.elim
    rename_i es ho
    have hr := c.h.rel o
    rw [ho] at hr
    obtain ⟨ces, ck, m1, _, m3⟩ := hr
    have hl := c.h.live o
    rw [ho] at hl
    split at h
    · rename_i j v hf
      obtain ⟨rfl, rfl⟩ := evF_ret h
      obtain ⟨cr, q0, q⟩ := findKey_ok c.T hkd hk m3 hf
      obtain ⟨u, rfl, q2, k', q3⟩ := q
      refine OpRes.pure c.h ?_ (pairV_rel q2) (pairV_live (MLive.at _ _ _ _ hl q3).2)
      have h1 := hck' ces.isEmpty
      cases ok <;> simp [Instr.lookup, hu', hx, getObj, Sem.run, m1, h1, q0]
    · rename_i hf
      obtain ⟨rfl, rfl⟩ := evF_ret h
      obtain ⟨cr, q0, q⟩ := findKey_ok c.T hkd hk m3 hf
      simp only at q
      subst q
      refine OpRes.pure c.h ?_ (pairV_rel (ofV_rel g w z)) (pairV_live (ofV_live _ z))
      have h1 := hck' ces.isEmpty
      cases ok <;> simp [Instr.lookup, hu', hx, getObj, Sem.run, m1, h1, q0, hz']
    · exact h.elim
  · exact h.elim

end
end
end Go.Abs
