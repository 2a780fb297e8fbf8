/-
  Maps written, strings walked, nil checks.
-/
import Derived.Test.YtgojpjbbahljeaaGreatDoorA13
/-! Maps written, strings walked, nil checks. -/
namespace Go.Abs
open Go
noncomputable section

section
variable {P : Program} {T : Tr TypeInfo} {F : Tr Func} {g : Gh} {B : Nat} {w : World} {H : AH} {s : Nat} {ev : Operand → AV} {ρ : Operand → Value} {r : PRes} {R : List Nat} {W : WL}

def sameAll (f : AV → AV → Bool) : List AV → List AV → Bool
  | [], [] => true
  | x :: xs, y :: ys => match f x y with
    | true => sameAll f xs ys
    | false => false
  | _, _ => false

def sameA : Nat → AV → AV → Bool
  | 0, _, _ => false
  | n + 1, x, y => match x with
    | .bool a => match y with
      | .bool b => a == b
      | _ => false
    | .int j a => match y with
      | .int k b => decide (j = k) && a == b
      | _ => false
    | .str a => match y with
      | .str b => a == b
      | _ => false
    | .agg a => match y with
      | .agg b => sameAll (sameA n) a b
      | _ => false
    | _ => false

theorem sameAll_ok {f : AV → AV → Bool} {n : Nat} (hf : ∀ x y u v, f x y = true → VRel g w x u → VRel g w y v → Instr.sameBits n u v = true) :
    ∀ (xs ys : List AV) (us vs : List Value), sameAll f xs ys = true → VRels g w xs us → VRels g w ys vs → us.length = vs.length ∧ (us.zip vs).all (fun (x, y) => Instr.sameBits n x y) = true
  | [], [], us, vs, _, hu, hv => by simp only [VRels] at hu hv; subst hu; subst hv; simp
  | x :: xs, y :: ys, us, vs, h, hu, hv => by
    obtain ⟨u, us', e, h1, h2⟩ := hu
    obtain ⟨v, vs', e', h3, h4⟩ := hv
    subst e; subst e'
    simp only [sameAll] at h
    split at h <;> try cases h
    rename_i hxy
    obtain ⟨k1, k2⟩ := sameAll_ok hf xs ys us' vs' h h2 h4
    refine ⟨by simp [k1], ?_⟩
    simp only [List.zip_cons_cons, List.all_cons, Bool.and_eq_true]
    exact ⟨hf x y u v hxy h1 h3, k2⟩
  | [], _ :: _, _, _, h, _, _ => by simp [sameAll] at h
  | _ :: _, [], _, _, h, _, _ => by simp [sameAll] at h

theorem sameA_ok : ∀ (n : Nat) (x y : AV) (u v : Value) (k : Nat), sameA n x y = true → VRel g w x u → VRel g w y v → Instr.sameBits (n + k) u v = true
  | 0, _, _, _, _, _, h, _, _ => by simp [sameA] at h
  | n + 1, x, y, u, v, k, h, hu, hv => by
    rw [show n + 1 + k = n + k + 1 by omega]
    unfold sameA at h
    split at h <;> try cases h
    · split at h <;> try cases h
      simp only [VRel] at hu hv
      subst hu; subst hv
      simpa [Instr.sameBits] using h
    · split at h <;> try cases h
      simp only [VRel] at hu hv
      subst hu; subst hv
      simpa [Instr.sameBits] using h
    · split at h <;> try cases h
      simp only [VRel] at hu hv
      subst hu; subst hv
      simp only [Instr.sameBits]
      rw [beq_toListBytes]
      simpa using h
    · split at h <;> try cases h
      obtain ⟨us, e, h1⟩ := hu
      obtain ⟨vs, e', h2⟩ := hv
      subst e; subst e'
      obtain ⟨k1, k2⟩ := sameAll_ok (n := n + k) (fun x y u v hxy hu hv => sameA_ok n x y u v k hxy hu hv) _ _ _ _ h h1 h2
      simp only [Instr.sameBits, Bool.and_eq_true, beq_iff_eq]
      exact ⟨by simpa using k1, k2⟩

def setE : List (AV × AV) → Nat → AV × AV → List (AV × AV)
  | [], _, _ => []
  | x :: xs, i, p => match i with
    | 0 => p :: xs
    | i + 1 => x :: setE xs i p

def keyAt : List (AV × AV) → Nat → Option AV
  | [], _ => none
  | x :: xs, i => match i with
    | 0 => some x.1
    | i + 1 => keyAt xs i

def snocE : List (AV × AV) → AV × AV → List (AV × AV)
  | [], p => [p]
  | x :: xs, p => x :: snocE xs p

theorem MRel.snoc {k v : AV} {e : MapEntry} (hk : VRel g w k e.key) (hv : VRel g w v e.val) : ∀ {es : List (AV × AV)} {ces : List MapEntry}, MRel g w es ces → MRel g w (snocE es (k, v)) (ces ++ [e])
  | [], ces, h => by
    simp only [MRel] at h
    subst h
    simp only [snocE, MRel]
    exact ⟨e, [], rfl, hk, hv, rfl⟩
  | (k', v') :: es, ces, h => by
    obtain ⟨e', es', e1, h1, h2, h3⟩ := h
    subst e1
    simp only [snocE, MRel, List.cons_append]
    exact ⟨e', _, rfl, h1, h2, MRel.snoc hk hv h3⟩

theorem MRel.set {k v : AV} {f : MapEntry → MapEntry} (hk : ∀ e, VRel g w k (f e).key) (hv : ∀ e, VRel g w v (f e).val) : ∀ {es : List (AV × AV)} {ces : List MapEntry} (i : Nat), MRel g w es ces →
    MRel g w (setE es i (k, v)) (ces.modify i f)
  | [], ces, i, h => by
    simp only [MRel] at h
    subst h
    simp [setE, MRel]
  | (k', v') :: es, ces, 0, h => by
    obtain ⟨e', es', e1, h1, h2, h3⟩ := h
    subst e1
    simp only [setE, List.modify_zero_cons, MRel]
    exact ⟨_, _, rfl, hk e', hv e', h3⟩
  | (k', v') :: es, ces, i + 1, h => by
    obtain ⟨e', es', e1, h1, h2, h3⟩ := h
    subst e1
    simp only [setE, List.modify_succ_cons, MRel]
    exact ⟨e', _, rfl, h1, h2, MRel.set hk hv i h3⟩

theorem keyAt_rel : ∀ {es : List (AV × AV)} {ces : List MapEntry} {i : Nat} {k : AV}, MRel g w es ces → keyAt es i = some k → ∃ e, ces[i]? = some e ∧ VRel g w k e.key
  | [], _, _, _, _, h => by simp [keyAt] at h
  | (k', v') :: es, ces, 0, k, hm, h => by
    obtain ⟨e', es', e1, h1, h2, h3⟩ := hm
    subst e1
    simp only [keyAt, Option.some.injEq] at h
    subst h
    exact ⟨e', by simp, h1⟩
  | (k', v') :: es, ces, i + 1, k, hm, h => by
    obtain ⟨e', es', e1, h1, h2, h3⟩ := hm
    subst e1
    simp only [keyAt] at h
    obtain ⟨e, f1, f2⟩ := keyAt_rel h3 h
    exact ⟨e, by simpa using f1, f2⟩

theorem MLive.snoc {L : Nat → Prop} {k v : AV} (hk : Live L k) (hv : Live L v) : ∀ {es : List (AV × AV)}, MLive L es → MLive L (snocE es (k, v))
  | [], _ => ⟨hk, hv, trivial⟩
  | (_, _) :: _, h => ⟨h.1, h.2.1, MLive.snoc hk hv h.2.2⟩

theorem MLive.set {L : Nat → Prop} {k v : AV} (hk : Live L k) (hv : Live L v) : ∀ {es : List (AV × AV)} (i : Nat), MLive L es → MLive L (setE es i (k, v))
  | [], _, _ => trivial
  | (_, _) :: _, 0, h => ⟨hk, hv, h.2.2⟩
  | (_, _) :: _, i + 1, h => ⟨h.1, h.2.1, MLive.set hk hv i h.2.2⟩

theorem snocE_mem : ∀ {es : List (AV × AV)} {p q : AV × AV}, q ∈ snocE es p → q ∈ es ∨ q = p
  | [], p, q, h => by simp [snocE] at h; exact .inr h
  | x :: es, p, q, h => by
    simp only [snocE, List.mem_cons] at h ⊢
    rcases h with h | h
    · exact .inl (.inl h)
    · rcases snocE_mem h with h | h
      · exact .inl (.inr h)
      · exact .inr h

theorem setE_mem : ∀ {es : List (AV × AV)} {i : Nat} {p q : AV × AV}, q ∈ setE es i p → q ∈ es ∨ q = p
  | [], _, p, q, h => by simp [setE] at h
  | x :: es, 0, p, q, h => by
    simp only [setE, List.mem_cons] at h ⊢
    rcases h with h | h
    · exact .inr h
    · exact .inl (.inr h)
  | x :: es, i + 1, p, q, h => by
    simp only [setE, List.mem_cons] at h ⊢
    rcases h with h | h
    · exact .inl (.inl h)
    · rcases setE_mem h with h | h
      · exact .inl (.inr h)
      · exact .inr h

def noUnk : AV → Bool
  | .unk => false
  | _ => true

def pMapUpd (P : Program) (T : Tr TypeInfo) (t : TypeId) (x k v : AV) : Plan :=
  match tyU T t with
  | some (.map kt _) => match tyU T kt with
    | some _ => .chk (ckey T 8 kt k) (match x with
      | .map o => .get o fun y => match y with
        | .mapo es => match findA P T kt k es 0 with
          | some (some (i, _)) => match keyAt es i with
            | some k' => .chk (sameA 8 k' k) (.seto o (.mapo (setE es i (k, v))) (Nat.max (bd k) (bd v)) .skip)
            | none => .fail
          | some none => .seto o (.mapo (snocE es (k, v))) (Nat.max (bd k) (bd v)) .skip
          | none => .fail
        | _ => .fail
      | _ => .fail)
    | none => .fail
  | _ => .fail

theorem setMap (h : HRel g B w H) {o : Nat} {es es' : List (AV × AV)} {ces' : Array MapEntry} {ck' : Nat} {rb : Nat} (ho : H.o o = .mapo es)
    (him : g.im (g.ob o) = 0) (hm : MRel g w es' ces'.toList) (hl : MLive H.L es') (hbd : ∀ p, p ∈ es' → p ∈ es ∨ (bd p.1 ≤ rb ∧ bd p.2 ≤ rb)) :
    Out g B w H g { w with heap := w.heap.setIfInBounds (g.ob o) (.map ces' ck') } (H.put o (.mapo es') rb) := by
  have hLo : H.L o := by unfold AH.L; rw [ho]; simp
  have hlt : g.ob o < w.heap.size := by
    have := (h.ge o hLo).2
    rw [ho] at this
    exact this
  refine h.setOb hLo (by rw [ho]; rfl) him (by simp) rfl rb (by simp) (fun k hk => ?_) rfl rfl rfl ?_ ?_ ?_
  · show (w.heap.setIfInBounds (g.ob o) _)[k]? = _
    rw [Array.getElem?_setIfInBounds_ne (by omega)]
  · intro hx
    refine ⟨ces', ck', ?_, him, hm.ext hx _ _ hl⟩
    show (w.heap.setIfInBounds (g.ob o) _)[g.ob o]? = _
    rw [Array.getElem?_setIfInBounds_self_of_lt hlt]
  · exact hl.mono fun i hi => AH.put_L H o rb (by simp) hi
  · intro p hp
    have hkp := h.kp o
    rw [ho] at hkp
    have := AH.put_keep H o (.mapo es') rb
    have hr := AH.put_bd H o (.mapo es') rb
    rcases hbd p hp with hp | ⟨h1, h2⟩
    · have := hkp p hp
      exact ⟨by omega, by omega⟩
    · exact ⟨by omega, by omega⟩

theorem pMapUpd_ok (c : OCtx P T F g B w H s ev ρ) {t : TypeId} {x k v : Operand} (h : EvF s (pMapUpd P T t (ev x) (ev k) (ev v)) H.o r R W) :
    OpRes g B w H W ((do Instr.mapUpdate t (ρ x) (ρ k) (ρ v); pure .skip : Sem Next).run P w) r := by
  have hx := c.rel x
  have hk := c.rel k
  have hv := c.rel v
  unfold pMapUpd at h
  split at h <;> try exact h.elim
  rename_i kt et hu
  have hu' := run_underlying_ok c.T hu w
  split at h <;> try exact h.elim
  rename_i kd hkd
  obtain ⟨hck, h⟩ := h
  have hck' := ckey_ok c.T false 8 kt _ _ hck hk 9992
  split at h <;> try exact h.elim
  rename_i o ex
  rw [ex] at hx
  simp only [VRel] at hx
  obtain ⟨R', _, h⟩ := h
  simp only at h
  split at h <;> try exact h.elim
  rename_i es ho
  have hr := c.h.rel o
  rw [ho] at hr
  obtain ⟨ces, ck, m1, m2, m3⟩ := hr
  have hl := c.h.live o
  rw [ho] at hl
  split at h
  · rename_i j v' hf
    split at h <;> try exact h.elim
    rename_i k' hk'
    obtain ⟨hsame, R2, W', _, rfl, h⟩ := h
    obtain ⟨rfl, _, rfl⟩ := h
    obtain ⟨cr, q0, q⟩ := findKey_ok c.T hkd hk m3 hf
    obtain ⟨u, rfl, q2, k'', q3⟩ := q
    obtain ⟨e, e1, e2⟩ := keyAt_rel m3 hk'
    have hsb := sameA_ok 8 k' (ev k) e.key (ρ k) 9992 hsame e2 hk
    have e1' : ces[j]? = some e := by simpa using e1
    have hout := setMap c.h ho m2 (ces' := ces.modify j fun e => { e with key := ρ k, val := ρ v }) (ck' := ck) (rb := Nat.max (bd (ev k)) (bd (ev v)))
      (by rw [Array.toList_modify]; exact m3.set (fun _ => hk) (fun _ => hv) j) (hl.set (c.live k) (c.live v) j) (fun p hp => by
        rcases setE_mem hp with hp | hp
        · exact .inl hp
        · subst hp; exact .inr ⟨Nat.le_max_left _ _, Nat.le_max_right _ _⟩)
    refine ⟨g, _, ?_, hout⟩
    simp [Instr.mapUpdate, hu', hx, getObj, setObj, Sem.run, m1, hck', q0, e1', Instr.keyThatStays, hsb]
  · rename_i hf
    obtain ⟨R2, W', _, rfl, h⟩ := h
    obtain ⟨rfl, _, rfl⟩ := h
    obtain ⟨cr, q0, q⟩ := findKey_ok c.T hkd hk m3 hf
    simp only at q
    subst q
    have hout := setMap c.h ho m2 (ces' := ces.push { key := ρ k, val := ρ v, born := ck }) (ck' := ck + 1) (rb := Nat.max (bd (ev k)) (bd (ev v)))
      (by rw [Array.toList_push]; exact m3.snoc hk hv) (hl.snoc (c.live k) (c.live v)) (fun p hp => by
        rcases snocE_mem hp with hp | hp
        · exact .inl hp
        · subst hp; exact .inr ⟨Nat.le_max_left _ _, Nat.le_max_right _ _⟩)
    refine ⟨g, _, ?_, hout⟩
    simp [Instr.mapUpdate, hu', hx, getObj, setObj, Sem.run, m1, hck', q0]
  · exact h.elim

/-! ### Strings walked -/

def pRange (T : Tr TypeInfo) (t : TypeId) (x : AV) : Plan :=
  match tyU T t with
  | some .string => match x with
    | .str l => .newo (.siter l 0) fun i => .ret (.ptr i 0)
    | _ => .fail
  | _ => .fail

theorem pRange_ok (c : OCtx P T F g B w H s ev ρ) {t : TypeId} {x : Operand} (h : EvF s (pRange T t (ev x)) H.o r R W) :
    OpRes g B w H W ((do let v ← Instr.range t (ρ x); pure (.value v) : Sem Next).run P w) r := by
  have hx := c.rel x
  unfold pRange at h
  split at h <;> try exact h.elim
  rename_i hu
  have hu' := run_underlying_ok c.T hu w
  split at h <;> try exact h.elim
  rename_i l ex
  rw [ex] at hx
  simp only [VRel] at hx
  obtain ⟨W', rfl, h⟩ := h
  obtain ⟨rfl, rfl⟩ := evF_ret h
  obtain ⟨g', e1, e2⟩ := c.h.newOb c.s (x := .siter l 0) (by simp) (fun _ _ => rfl) (.stringIter ⟨l.toArray⟩ 0) 0 (by
    intro g' f1 f2 _ _
    exact ⟨by rw [f1]; exact heap_alloc_new _ _, by rw [f1]; exact f2⟩) trivial trivial
  refine ⟨.pointer (some ⟨w.heap.size, 0, none⟩), g', _, ?_, e1, ?_, AH.put_L_same H s _ (by simp)⟩
  · simp [Instr.range, hu', hx]
  · simp only [VRel]; rw [e2]

def pNext (x : AV) : Plan :=
  match x with
  | .ptr o off => match off with
    | 0 => .get o fun y => match y with
      | .siter l pos => match decide (pos < l.length) with
        | true => match Utf8.decode ⟨l.toArray⟩ pos with
          | (ch, width) => .seto o (.siter l (pos + width)) 0 (.ret (.tup [.bool true, .int .i64 pos, .int .i32 ch]))
        | false => .ret (.tup [.bool false])
      | _ => .fail
    | _ => .fail
  | _ => .fail

theorem pNext_ok (c : OCtx P T F g B w H s ev ρ) {t : TypeId} {x : Operand} (h : EvF s (pNext (ev x)) H.o r R W) :
    OpRes g B w H W ((do let v ← Instr.next (ρ x) true t; pure (.value v) : Sem Next).run P w) r := by
  have hx := c.rel x
  unfold pNext at h
  split at h <;> try exact h.elim
  rename_i o off ex
  rw [ex] at hx
  simp only [VRel] at hx
  split at h <;> try exact h.elim
  obtain ⟨R', _, h⟩ := h
  simp only at h
  split at h <;> try exact h.elim
  rename_i l pos ho
  have hr := c.h.rel o
  rw [ho] at hr
  obtain ⟨m1, m2⟩ := hr
  have hLo : H.L o := by unfold AH.L; rw [ho]; simp
  have hlt : g.ob o < w.heap.size := by
    have := (c.h.ge o hLo).2
    rw [ho] at this
    exact this
  have es : (⟨l.toArray⟩ : ByteArray).size = l.length := rfl
  split at h
  · rename_i hp
    have hp := of_decide_eq_true hp
    generalize hd : Utf8.decode ⟨l.toArray⟩ pos = cw at h
    obtain ⟨ch, width⟩ := cw
    simp only at h
    obtain ⟨R2, W', _, rfl, h⟩ := h
    obtain ⟨rfl, rfl⟩ := evF_ret h
    have hout : Out g B w H g { w with heap := w.heap.setIfInBounds (g.ob o) (.stringIter ⟨l.toArray⟩ (pos + width)) } (H.put o (.siter l (pos + width)) 0) := by
      refine c.h.setOb hLo (by rw [ho]; rfl) m2 (by simp) rfl 0 (by simp) (fun k hk => ?_) rfl rfl rfl ?_ trivial trivial
      · show (w.heap.setIfInBounds (g.ob o) _)[k]? = _
        rw [Array.getElem?_setIfInBounds_ne (by omega)]
      · intro _
        refine ⟨?_, m2⟩
        show (w.heap.setIfInBounds (g.ob o) _)[g.ob o]? = _
        rw [Array.getElem?_setIfInBounds_self_of_lt hlt]
    refine ⟨.tuple #[.bool true, .int .i64 pos, .int .i32 ch], g, _, ?_, hout, ?_, ?_⟩
    · simp [Instr.next, hx, getObj, setObj, Sem.run, m1, es, hp, hd, goInt]
    · simp only [VRel]
      exact ⟨_, rfl, by simp [VRels, VRel]⟩
    · exact ⟨trivial, trivial, trivial, trivial⟩
  · rename_i hp
    have hp := of_decide_eq_false hp
    obtain ⟨rfl, rfl⟩ := evF_ret h
    refine OpRes.pure c.h (u := .tuple #[.bool false]) ?_ ?_ ⟨trivial, trivial⟩
    · simp [Instr.next, hx, getObj, Sem.run, m1, es, hp]
    · simp only [VRel]
      exact ⟨_, rfl, by simp [VRels, VRel]⟩

end
end
end Go.Abs
