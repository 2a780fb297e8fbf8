/-
  Interfaces, functions, conversions, len, max, min, strings walked.
-/
import Derived.Test.YtgojpjbbahljeaaGreatDoorA9
/-! Interfaces, functions, conversions, len, max, min, strings walked. -/
namespace Go.Abs
open Go
noncomputable section

section
variable {P : Program} {T : Tr TypeInfo} {F : Tr Func} {g : Gh} {B : Nat} {w : World} {H : AH} {s : Nat} {ev : Operand → AV} {ρ : Operand → Value} {r : PRes} {R : List Nat} {W : WL}

def pMkIface (T : Tr TypeInfo) (t : TypeId) (x : AV) : Plan :=
  match tyU T t with
  | some (.interface _) => .fail
  | some _ => .ret (.iface t x)
  | none => .fail

theorem pMkIface_ok (c : OCtx P T F g B w H s ev ρ) {t : TypeId} {x : Operand} (h : EvF s (pMkIface T t (ev x)) H.o r R W) :
    OpRes g B w H W ((do let v ← Instr.makeInterface t (ρ x); pure (.value v) : Sem Next).run P w) r := by
  unfold pMkIface at h
  split at h
  · exact h.elim
  · rename_i d hn hu
    have hu' := run_underlying_ok c.T hu w
    obtain ⟨rfl, rfl⟩ := evF_ret h
    refine OpRes.pure c.h (u := .iface t (ρ x)) ?_ (by simp only [VRel]; exact ⟨_, rfl, c.rel x⟩) (c.live x)
    cases d <;> first
      | exact absurd rfl (hn _)
      | simp [Instr.makeInterface, hu']
  · exact h.elim

theorem VRels.map (c : OCtx P T F g B w H s ev ρ) : ∀ (xs : List Operand), VRels g w (xs.map ev) (xs.map ρ) ∧ Lives H.L (xs.map ev)
  | [] => by simp [VRels, Lives]
  | x :: xs => by
    obtain ⟨h1, h2⟩ := VRels.map c xs
    simp only [List.map_cons, VRels, Lives]
    exact ⟨⟨_, _, rfl, c.rel x, h1⟩, c.live x, h2⟩

def pMkFunc (fn : Fn) (first cap : List AV) : Plan := .fL first fun f => .fL cap fun cp => .ret (.func fn f cp)

theorem pMkFunc_ok (c : OCtx P T F g B w H s ev ρ) {fn : Fn} {first cap : Array Operand} (h : EvF s (pMkFunc fn (first.toList.map ev) (cap.toList.map ev)) H.o r R W) :
    OpRes g B w H W ((do let v ← Instr.makeFunc fn (first.map ρ) (cap.map ρ); pure (.value v) : Sem Next).run P w) r := by
  obtain ⟨rfl, rfl⟩ := evF_ret (s := s) (o := H.o) (r := r) (R := R) (W := W) h
  obtain ⟨h1, h2⟩ := VRels.map c first.toList
  obtain ⟨h3, h4⟩ := VRels.map c cap.toList
  refine OpRes.pure c.h (u := .func fn (first.map ρ) (cap.map ρ)) (by simp [Instr.makeFunc]) ?_ ⟨h2, h4⟩
  simp only [VRel]
  exact ⟨_, _, rfl, by simpa using h1, by simpa using h3⟩

def pAssert (T : Tr TypeInfo) (x : AV) (asserted : TypeId) (ok : Bool) : Plan :=
  match tyU T asserted with
  | some (.interface _) => .fail
  | some _ => match x with
    | .iface t v => match decide (t = asserted) with
      | true => match ok with
        | true => .ret (.tup [v, .bool true])
        | false => .ret v
      | false => match ok with
        | true => match T.get asserted with
          | some i => match i.zero with
            | some z => .ret (.tup [ofV z, .bool false])
            | none => .fail
          | none => .fail
        | false => .fail
    | .nili => match ok with
      | true => match T.get asserted with
        | some i => match i.zero with
          | some z => .ret (.tup [ofV z, .bool false])
          | none => .fail
        | none => .fail
      | false => .fail
    | _ => .fail
  | none => .fail

theorem pAssert_ok (c : OCtx P T F g B w H s ev ρ) {x : Operand} {xt asserted : TypeId} {ok : Bool} (h : EvF s (pAssert T (ev x) asserted ok) H.o r R W) :
    OpRes g B w H W ((do let v ← Instr.typeAssert (ρ x) xt asserted ok; pure (.value v) : Sem Next).run P w) r := by
  have hx := c.rel x
  have hl := c.live x
  unfold pAssert at h
  split at h
  · exact h.elim
  · rename_i d hn hu
    have hu' := run_underlying_ok c.T hu w
    split at h
    · rename_i t v ex
      rw [ex] at hx hl
      obtain ⟨u, eu, hv⟩ := hx
      split at h
      · rename_i e
        have e := of_decide_eq_true e
        subst e
        split at h
        · obtain ⟨rfl, rfl⟩ := evF_ret h
          refine OpRes.pure c.h (u := .tuple #[u, .bool true]) ?_ ?_ ⟨hl, trivial, trivial⟩
          · cases d <;> first
              | exact absurd rfl (hn _)
              | simp [Instr.typeAssert, hu', eu]
          · simp only [VRel]
            exact ⟨_, rfl, by simp [VRels, VRel, hv]⟩
        · obtain ⟨rfl, rfl⟩ := evF_ret h
          refine OpRes.pure c.h (u := u) ?_ hv hl
          cases d <;> first
              | exact absurd rfl (hn _)
              | simp [Instr.typeAssert, hu', eu]
      · rename_i e
        have e := of_decide_eq_false e
        split at h <;> try exact h.elim
        split at h <;> try exact h.elim
        rename_i i hi
        split at h <;> try exact h.elim
        rename_i z hz
        obtain ⟨rfl, rfl⟩ := evF_ret h
        have hz' := run_zeroValue_ok c.T hi hz w
        refine OpRes.pure c.h (u := .tuple #[z, .bool false]) ?_ ?_ ⟨ofV_live _ z, trivial, trivial⟩
        · cases d <;> first
              | exact absurd rfl (hn _)
              | simp [Instr.typeAssert, hu', eu, e, hz']
        · simp only [VRel]
          exact ⟨_, rfl, by simp [VRels, VRel, ofV_rel]⟩
    · rename_i ex
      rw [ex] at hx
      simp only [VRel] at hx
      split at h <;> try exact h.elim
      split at h <;> try exact h.elim
      rename_i i hi
      split at h <;> try exact h.elim
      rename_i z hz
      obtain ⟨rfl, rfl⟩ := evF_ret h
      have hz' := run_zeroValue_ok c.T hi hz w
      refine OpRes.pure c.h (u := .tuple #[z, .bool false]) ?_ ?_ ⟨ofV_live _ z, trivial, trivial⟩
      · cases d <;> first
              | exact absurd rfl (hn _)
              | simp [Instr.typeAssert, hu', hx, hz']
      · simp only [VRel]
        exact ⟨_, rfl, by simp [VRels, VRel, ofV_rel]⟩
    · exact h.elim
  · exact h.elim

def pConv (T : Tr TypeInfo) (dst : TypeId) (x : AV) : Plan :=
  match x with
  | .int _ n => match tyU T dst with
    | some (.int k) => .ret (.int k (k.wrap n))
    | _ => .fail
  | .str l => match tyU T dst with
    | some .string => .ret (.str l)
    | _ => .fail
  | _ => .fail

theorem pConv_ok (c : OCtx P T F g B w H s ev ρ) {src dst : TypeId} {x : Operand} (hs : ∃ d, tyU T src = some d) (h : EvF s (pConv T dst (ev x)) H.o r R W) :
    OpRes g B w H W ((do let v ← convert src dst (ρ x); pure (.value v) : Sem Next).run P w) r := by
  have hx := c.rel x
  obtain ⟨d, hd⟩ := hs
  have hd' := run_underlying_ok c.T hd w
  unfold pConv at h
  split at h
  · rename_i k0 n ex
    rw [ex] at hx
    simp only [VRel] at hx
    split at h <;> try exact h.elim
    rename_i k hu
    have hu' := run_underlying_ok c.T hu w
    obtain ⟨rfl, rfl⟩ := evF_ret h
    refine OpRes.pure c.h (u := .int k (k.wrap n)) ?_ (by simp [VRel]) trivial
    simp only [convert, Sem.run_bind, hd', hu', Result.andThen_ok, hx]
    cases d <;> simp [Conv.intToInt]
  · rename_i l ex
    rw [ex] at hx
    simp only [VRel] at hx
    split at h <;> try exact h.elim
    rename_i hu
    have hu' := run_underlying_ok c.T hu w
    obtain ⟨rfl, rfl⟩ := evF_ret h
    refine OpRes.pure c.h (u := .string ⟨l.toArray⟩) ?_ (by simp [VRel]) trivial
    simp only [convert, Sem.run_bind, hd', hu', Result.andThen_ok, hx]
    cases d <;> simp
  · exact h.elim

def pLen (T : Tr TypeInfo) (t : TypeId) (x : AV) : Plan :=
  match tyU T t with
  | some .string => match x with
    | .str l => .ret (.int .i64 l.length)
    | _ => .fail
  | some (.array n _) => .ret (.int .i64 n)
  | some (.slice _) => match x with
    | .lst _ n _ => .ret (.int .i64 n)
    | .slc _ _ n _ => .ret (.int .i64 n)
    | .nils => .ret (.int .i64 0)
    | _ => .fail
  | some (.map _ _) => match x with
    | .nilm => .ret (.int .i64 0)
    | .map o => .get o fun y => match y with
      | .mapo es => .ret (.int .i64 es.length)
      | _ => .fail
    | _ => .fail
  | _ => .fail

theorem MRel.length : ∀ {es : List (AV × AV)} {ces : List MapEntry}, MRel g w es ces → ces.length = es.length
  | [], ces, h => by simp only [MRel] at h; simp [h]
  | (k, v) :: es, ces, h => by
    obtain ⟨e, es', e1, _, _, h3⟩ := h
    subst e1
    simp [MRel.length h3]

theorem pLen_ok (c : OCtx P T F g B w H s ev ρ) {t ty : TypeId} {x : Operand} (h : EvF s (pLen T t (ev x)) H.o r R W) :
    OpRes g B w H W ((do let v ← Builtin.len_ #[t] ty #[ρ x]; pure (.value v) : Sem Next).run P w) r := by
  have hx := c.rel x
  unfold pLen at h
  split at h
  · rename_i hu
    have hu' := run_underlying_ok c.T hu w
    split at h <;> try exact h.elim
    rename_i l ex
    rw [ex] at hx
    simp only [VRel] at hx
    obtain ⟨rfl, rfl⟩ := evF_ret h
    refine OpRes.pure c.h (u := .int .i64 l.length) ?_ (by simp [VRel]) trivial
    have es : (⟨l.toArray⟩ : ByteArray).size = l.length := rfl
    simp [Builtin.len_, hu', hx, goInt, es]
  · rename_i n e hu
    have hu' := run_underlying_ok c.T hu w
    obtain ⟨rfl, rfl⟩ := evF_ret h
    refine OpRes.pure c.h (u := .int .i64 n) ?_ (by simp [VRel]) trivial
    simp [Builtin.len_, hu', goInt]
  · rename_i e hu
    have hu' := run_underlying_ok c.T hu w
    split at h
    · rename_i xs n own ex
      rw [ex] at hx
      simp only [VRel] at hx
      obtain ⟨b, off, cap, e1, _⟩ := hx
      obtain ⟨rfl, rfl⟩ := evF_ret h
      refine OpRes.pure c.h (u := .int .i64 n) ?_ (by simp [VRel]) trivial
      simp [Builtin.len_, hu', e1, goInt]
    · rename_i o off n cap ex
      rw [ex] at hx
      simp only [VRel] at hx
      obtain ⟨rfl, rfl⟩ := evF_ret h
      refine OpRes.pure c.h (u := .int .i64 n) ?_ (by simp [VRel]) trivial
      simp [Builtin.len_, hu', hx, goInt]
    · rename_i ex
      rw [ex] at hx
      simp only [VRel] at hx
      obtain ⟨rfl, rfl⟩ := evF_ret h
      refine OpRes.pure c.h (u := .int .i64 0) ?_ (by simp [VRel]) trivial
      simp [Builtin.len_, hu', hx, goInt]
    · exact h.elim
  · rename_i kt et hu
    have hu' := run_underlying_ok c.T hu w
    split at h
    · rename_i ex
      rw [ex] at hx
      simp only [VRel] at hx
      obtain ⟨rfl, rfl⟩ := evF_ret h
      refine OpRes.pure c.h (u := .int .i64 0) ?_ (by simp [VRel]) trivial
      simp [Builtin.len_, hu', hx, goInt]
    · rename_i o ex
      rw [ex] at hx
      simp only [VRel] at hx
      obtain ⟨R', _, h⟩ := h
      simp only at h
      split at h
      · rename_i es ho
        obtain ⟨rfl, rfl⟩ := evF_ret h
        have hr := c.h.rel o
        rw [ho] at hr
        obtain ⟨ces, ck, h1, _, h3⟩ := hr
        have hl := h3.length
        refine OpRes.pure c.h (u := .int .i64 es.length) ?_ (by simp [VRel]) trivial
        simp [Builtin.len_, hu', hx, goInt, getObj, Sem.run, h1, ← hl]
      · exact h.elim
    · exact h.elim
  · exact h.elim

def maxI (a b : Int) : Int := if b > a then b else a
def minI (a b : Int) : Int := if b < a then b else a

def foldInts (f : Int → Int → Int) (k : IntKind) : Int → List AV → Option Int
  | a, [] => some a
  | a, x :: xs => match x with
    | .int k' b => if k' = k then foldInts f k (f a b) xs else none
    | _ => none

def pFold (f : Int → Int → Int) : List AV → Plan
  | x :: xs => match x with
    | .int k a => match foldInts f k a xs with
      | some n => .ret (.int k n)
      | none => .fail
    | _ => .fail
  | [] => .fail

theorem foldMax_ok {k : IntKind} : ∀ {xs : List AV} {vs : List Value} {a n : Int}, foldInts maxI k a xs = some n → VRels g w xs vs →
    (vs.foldlM Builtin.max2 (.int k a) : Sem Value).run P w = .ok (.int k n) w
  | [], vs, a, n, h, hv => by
    simp only [VRels] at hv
    subst hv
    simp only [foldInts, Option.some.injEq] at h
    subst h
    rfl
  | x :: xs, vs, a, n, h, hv => by
    obtain ⟨u, us, e, h1, h2⟩ := hv
    subst e
    simp only [foldInts] at h
    split at h <;> try cases h
    split at h <;> try cases h
    rename_i e
    subst e
    simp only [VRel] at h1
    subst h1
    simp only [List.foldlM_cons, Builtin.max2, Sem.run_bind, Sem.run_pure, Result.andThen_ok]
    exact foldMax_ok h h2

theorem foldMin_ok {k : IntKind} : ∀ {xs : List AV} {vs : List Value} {a n : Int}, foldInts minI k a xs = some n → VRels g w xs vs →
    (vs.foldlM Builtin.min2 (.int k a) : Sem Value).run P w = .ok (.int k n) w
  | [], vs, a, n, h, hv => by
    simp only [VRels] at hv
    subst hv
    simp only [foldInts, Option.some.injEq] at h
    subst h
    rfl
  | x :: xs, vs, a, n, h, hv => by
    obtain ⟨u, us, e, h1, h2⟩ := hv
    subst e
    simp only [foldInts] at h
    split at h <;> try cases h
    split at h <;> try cases h
    rename_i e
    subst e
    simp only [VRel] at h1
    subst h1
    simp only [List.foldlM_cons, Builtin.min2, Sem.run_bind, Sem.run_pure, Result.andThen_ok]
    exact foldMin_ok h h2

theorem pMax_ok (c : OCtx P T F g B w H s ev ρ) {ts : Array TypeId} {ty : TypeId} {xs : Array Operand} (h : EvF s (pFold maxI (xs.toList.map ev)) H.o r R W) :
    OpRes g B w H W ((do let v ← Builtin.max_ ts ty (xs.map ρ); pure (.value v) : Sem Next).run P w) r := by
  obtain ⟨hv, _⟩ := VRels.map c xs.toList
  have e0 : (xs.map ρ).toList = xs.toList.map ρ := by simp
  unfold Builtin.max_
  rw [e0]
  generalize xs.toList.map ev = as at *
  generalize xs.toList.map ρ = vs at *
  unfold pFold at h
  split at h
  · obtain ⟨u, us, e, h1, h2⟩ := hv
    subst e
    split at h <;> try exact h.elim
    rename_i k a _
    split at h <;> try exact h.elim
    rename_i n hn
    obtain ⟨rfl, rfl⟩ := evF_ret h
    simp only [VRel] at h1
    subst h1
    refine OpRes.pure c.h (u := .int k n) ?_ (by simp only [VRel]) trivial
    simp [foldMax_ok (P := P) hn h2]
  · exact h.elim

theorem pMin_ok (c : OCtx P T F g B w H s ev ρ) {ts : Array TypeId} {ty : TypeId} {xs : Array Operand} (h : EvF s (pFold minI (xs.toList.map ev)) H.o r R W) :
    OpRes g B w H W ((do let v ← Builtin.min_ ts ty (xs.map ρ); pure (.value v) : Sem Next).run P w) r := by
  obtain ⟨hv, _⟩ := VRels.map c xs.toList
  have e0 : (xs.map ρ).toList = xs.toList.map ρ := by simp
  unfold Builtin.min_
  rw [e0]
  generalize xs.toList.map ev = as at *
  generalize xs.toList.map ρ = vs at *
  unfold pFold at h
  split at h
  · obtain ⟨u, us, e, h1, h2⟩ := hv
    subst e
    split at h <;> try exact h.elim
    rename_i k a _
    split at h <;> try exact h.elim
    rename_i n hn
    obtain ⟨rfl, rfl⟩ := evF_ret h
    simp only [VRel] at h1
    subst h1
    refine OpRes.pure c.h (u := .int k n) ?_ (by simp only [VRel]) trivial
    simp [foldMin_ok (P := P) hn h2]
  · exact h.elim

def pPick (c a b : AV) : Plan :=
  match c with
  | .bool t => match t with
    | true => .ret a
    | false => .ret b
  | _ => .fail

theorem pPick_ok (c : OCtx P T F g B w H s ev ρ) {x a b : Operand} (h : EvF s (pPick (ev x) (ev a) (ev b)) H.o r R W) :
    OpRes g B w H W ((do pure (.value (if ← asBool (ρ x) then ρ a else ρ b)) : Sem Next).run P w) r := by
  have hx := c.rel x
  unfold pPick at h
  split at h <;> try exact h.elim
  rename_i t ex
  rw [ex] at hx
  simp only [VRel] at hx
  split at h
  · obtain ⟨rfl, rfl⟩ := evF_ret h
    exact OpRes.pure c.h (u := ρ a) (by simp [hx, asBool]) (c.rel a) (c.live a)
  · obtain ⟨rfl, rfl⟩ := evF_ret h
    exact OpRes.pure c.h (u := ρ b) (by simp [hx, asBool]) (c.rel b) (c.live b)

end
end
end Go.Abs
