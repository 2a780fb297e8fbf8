/-
  Indexes, slices, interfaces, functions, conversions, len, max, min.
-/
import Derived.Test.YtgojpjbbahljeaaGreatDoorA8
/-! Indexes, slices, interfaces, functions, conversions, len, max, min. -/
namespace Go.Abs
open Go
noncomputable section

def nthB : List UInt8 → Nat → Option UInt8
  | [], _ => none
  | x :: xs, i => match i with
    | 0 => some x
    | i + 1 => nthB xs i

theorem nthB_eq : ∀ (l : List UInt8) (i : Nat), nthB l i = l[i]?
  | [], i => by simp [nthB]
  | x :: xs, 0 => by simp [nthB]
  | x :: xs, i + 1 => by simp [nthB, nthB_eq xs i]

theorem mk_getElem? (l : List UInt8) (i : Nat) : (⟨l.toArray⟩ : ByteArray)[i]? = l[i]? := by
  by_cases h : i < l.length
  · have h1 : i < (⟨l.toArray⟩ : ByteArray).size := h
    rw [getElem?_pos (⟨l.toArray⟩ : ByteArray) i h1, getElem?_pos l i h]
    rfl
  · have h1 : ¬ i < (⟨l.toArray⟩ : ByteArray).size := h
    rw [getElem?_neg (⟨l.toArray⟩ : ByteArray) i h1, getElem?_neg l i h]

section
variable {P : Program} {T : Tr TypeInfo} {F : Tr Func} {g : Gh} {B : Nat} {w : World} {H : AH} {s : Nat} {ev : Operand → AV} {ρ : Operand → Value} {r : PRes} {R : List Nat} {W : WL}

def inR (i : Int) (n : Nat) : Bool := decide (0 ≤ i) && decide (i < (n : Int))

theorem inR_ok {i : Int} {n : Nat} (h : inR i n = true) : 0 ≤ i ∧ i < (n : Int) := by
  unfold inR at h
  simpa using h

def pIndex (T : Tr TypeInfo) (t : TypeId) (x ix : AV) : Plan :=
  match ix with
  | .int _ i => match tyU T t with
    | some (.array len e) => match x with
      | .agg cs => .chk (inR i len) (match T.get e with
        | some inf => match pPart T e cs (i.toNat * inf.size) with
          | some a => .ret a
          | none => .fail
        | none => .fail)
      | _ => .fail
    | some .string => match x with
      | .str l => .chk (decide (0 ≤ i)) (match nthB l i.toNat with
        | some b => .ret (.int .u8 b.toNat)
        | none => .fail)
      | _ => .fail
    | _ => .fail
  | _ => .fail

theorem pIndex_ok (c : OCtx P T F g B w H s ev ρ) {t : TypeId} {x ix : Operand} (h : EvF s (pIndex T t (ev x) (ev ix)) H.o r R W) :
    OpRes g B w H W ((do let v ← Instr.index t (ρ x) (ρ ix); pure (.value v) : Sem Next).run P w) r := by
  have hx := c.rel x
  have hi := c.rel ix
  have hlx := c.live x
  unfold pIndex at h
  split at h
  · rename_i k i ei
    rw [ei] at hi
    simp only [VRel] at hi
    split at h
    · rename_i len e hu
      have hu' := run_underlying_ok c.T hu w
      split at h
      · rename_i cs ex
        rw [ex] at hx hlx
        obtain ⟨vs, ev', hvs⟩ := hx
        obtain ⟨hin, h⟩ := h
        have hin := inR_ok hin
        split at h
        · rename_i inf hinf
          split at h
          · rename_i a ha
            obtain ⟨rfl, rfl⟩ := evF_ret h
            obtain ⟨v, h1, h2, h3⟩ := pPart_ok c.T ha hvs hlx
            refine OpRes.pure c.h (u := v) ?_ h2 h3
            simp [Instr.index, hi, asIntOf, hu', ev', hin.1, hin.2, run_sizeOf_ok c.T hinf w, h1]
          · exact h.elim
        · exact h.elim
      · exact h.elim
    · rename_i hu
      have hu' := run_underlying_ok c.T hu w
      split at h
      · rename_i l ex
        rw [ex] at hx
        simp only [VRel] at hx
        obtain ⟨hin, h⟩ := h
        have hin := of_decide_eq_true hin
        split at h
        · rename_i b hb
          obtain ⟨rfl, rfl⟩ := evF_ret h
          rw [nthB_eq] at hb
          refine OpRes.pure c.h (u := .int .u8 b.toNat) ?_ (by simp [VRel]) trivial
          simp [Instr.index, hi, asIntOf, hu', hx, hin, mk_getElem?, hb]
        · exact h.elim
      · exact h.elim
    · exact h.elim
  · exact h.elim

def pIndexAddr (T : Tr TypeInfo) (t : TypeId) (x ix : AV) : Plan :=
  match ix with
  | .int _ i => match tyU T t with
    | some (.array len e) => match T.get e with
      | some inf => .chk (inR i len) (match x with
        | .ptr o off => .ret (.ptr o (off + i.toNat * inf.size))
        | .lptr xs off => .ret (.lptr xs (off + i.toNat * inf.size))
        | _ => .fail)
      | none => .fail
    | some (.slice e) => match T.get e with
      | some inf => match x with
        | .lst xs n _ => .chk (inR i n) (.ret (.lptr xs (i.toNat * inf.size)))
        | .slc o off len _ => .chk (inR i len) (.ret (.ptr o (off + i.toNat * inf.size)))
        | _ => .fail
      | none => .fail
    | _ => .fail
  | _ => .fail

theorem pIndexAddr_ok (c : OCtx P T F g B w H s ev ρ) {t : TypeId} {x ix : Operand} (h : EvF s (pIndexAddr T t (ev x) (ev ix)) H.o r R W) :
    OpRes g B w H W ((do let v ← Instr.indexAt t (ρ x) (ρ ix); pure (.value v) : Sem Next).run P w) r := by
  have hx := c.rel x
  have hi := c.rel ix
  have hlx := c.live x
  unfold pIndexAddr at h
  split at h
  · rename_i k i ei
    rw [ei] at hi
    simp only [VRel] at hi
    split at h
    · rename_i len e hu
      have hu' := run_underlying_ok c.T hu w
      split at h
      · rename_i inf hinf
        have hsz := run_sizeOf_ok c.T hinf w
        obtain ⟨hin, h⟩ := h
        have hin := inR_ok hin
        split at h
        · rename_i o off ex
          rw [ex] at hx hlx
          simp only [VRel] at hx
          obtain ⟨rfl, rfl⟩ := evF_ret h
          refine OpRes.pure c.h (u := .pointer (some ⟨g.ob o, off + i.toNat * inf.size, none⟩)) ?_ (by simp [VRel]) hlx
          simp [Instr.indexAt, hi, asIntOf, hu', hx, Instr.sureAddr, hin.1, hin.2, hsz, add_none]
        · rename_i xs off ex
          rw [ex] at hx hlx
          simp only [VRel] at hx
          obtain ⟨b, o0, e1, h1, h2⟩ := hx
          obtain ⟨rfl, rfl⟩ := evF_ret h
          refine OpRes.pure c.h (u := .pointer (some ⟨b, o0 + (off + i.toNat * inf.size), none⟩)) ?_ ?_ hlx
          · simp [Instr.indexAt, hi, asIntOf, hu', e1, Instr.sureAddr, hin.1, hin.2, hsz, add_none, Nat.add_assoc]
          · simp only [VRel]; exact ⟨b, o0, rfl, h1, h2⟩
        · exact h.elim
      · exact h.elim
    · rename_i e hu
      have hu' := run_underlying_ok c.T hu w
      split at h
      · rename_i inf hinf
        have hsz := run_sizeOf_ok c.T hinf w
        split at h
        · rename_i xs n own ex
          rw [ex] at hx hlx
          simp only [VRel] at hx
          obtain ⟨b, off, cap, e1, h1, h2, h3, h4⟩ := hx
          obtain ⟨hin, h⟩ := h
          have hin := inR_ok hin
          obtain ⟨rfl, rfl⟩ := evF_ret h
          refine OpRes.pure c.h (u := .pointer (some ⟨b, off + i.toNat * inf.size, none⟩)) ?_ ?_ hlx.1
          · simp [Instr.indexAt, hi, asIntOf, hu', e1, hin.1, hin.2, hsz, add_none]
          · simp only [VRel]; exact ⟨b, off, rfl, h2, h3⟩
        · rename_i o off len cap ex
          rw [ex] at hx hlx
          simp only [VRel] at hx
          obtain ⟨hin, h⟩ := h
          have hin := inR_ok hin
          obtain ⟨rfl, rfl⟩ := evF_ret h
          refine OpRes.pure c.h (u := .pointer (some ⟨g.ob o, off + i.toNat * inf.size, none⟩)) ?_ (by simp [VRel]) hlx
          simp [Instr.indexAt, hi, asIntOf, hu', hx, hin.1, hin.2, hsz, add_none]
        · exact h.elim
      · exact h.elim
    · exact h.elim
  · exact h.elim

/-! ### Slices -/

/-- An optional bound: its number, if it is one from 0 to n; the default, if there is none. -/
def bnd (x : Option AV) (dflt n : Nat) : Option Nat :=
  match x with
  | none => some dflt
  | some (.int _ i) => match decide (0 ≤ i) && decide (i ≤ (n : Int)) with
    | true => some i.toNat
    | false => none
  | some _ => none



theorem bnd_ok {x : Option AV} {dflt n l : Nat} (h : bnd x dflt n = some l) : (x = none ∧ l = dflt) ∨ ∃ k i, x = some (.int k i) ∧ 0 ≤ i ∧ i ≤ (n : Int) ∧ l = i.toNat := by
  unfold bnd at h
  split at h
  · simp only [Option.some.injEq] at h
    exact .inl ⟨rfl, h.symm⟩
  · rename_i k i
    split at h
    · rename_i hb
      simp only [Option.some.injEq] at h
      have hb : 0 ≤ i ∧ i ≤ (n : Int) := by simpa using hb
      exact .inr ⟨k, i, rfl, hb.1, hb.2, h.symm⟩
    · cases h
  · cases h

theorem sliceBound_run {k : IntKind} {i : Int} {y : Nat} (h0 : 0 ≤ i) (h1 : i ≤ (y : Int)) (code : BoundsCode) (w : World) : (Instr.sliceBound (.int k i) y code).run P w = .ok i.toNat w := by
  simp [Instr.sliceBound, asIntOf, h0, h1]

theorem sliceBounds_ok (c : OCtx P T F g B w H s ev ρ) {low high : Option Operand} {isS : Bool} {len y m l h : Nat} (hh : bnd (high.map ev) len y = some h) (hl : bnd (low.map ev) 0 h = some l) (hy : y ≤ m) :
    (Instr.sliceBounds isS len m (low.map ρ) (high.map ρ) none).run P w = .ok (l, h, m) w := by
  unfold Instr.sliceBounds
  cases high with
  | none =>
    rcases bnd_ok hh with ⟨_, e⟩ | ⟨k, i, e, _⟩
    · subst e
      cases low with
      | none =>
        rcases bnd_ok hl with ⟨_, e⟩ | ⟨k, i, e, _⟩
        · subst e; simp
        · cases e
      | some lo =>
        rcases bnd_ok hl with ⟨e, _⟩ | ⟨k, i, e, e1, e2, e3⟩
        · cases e
        · simp only [Option.map_some, Option.some.injEq] at e
          have := c.rel lo
          rw [e] at this
          simp only [VRel] at this
          simp [this, sliceBound_run e1 e2, e3]
    · cases e
  | some hi =>
    rcases bnd_ok hh with ⟨e, _⟩ | ⟨k, i, e, e1, e2, e3⟩
    · cases e
    · simp only [Option.map_some, Option.some.injEq] at e
      have hv := c.rel hi
      rw [e] at hv
      simp only [VRel] at hv
      have hb := fun code => sliceBound_run (P := P) (k := k) (y := m) e1 (by omega) code w
      cases low with
      | none =>
        rcases bnd_ok hl with ⟨_, e⟩ | ⟨k, i, e, _⟩
        · subst e; simp [hv, hb, e3]
        · cases e
      | some lo =>
        rcases bnd_ok hl with ⟨e, _⟩ | ⟨k', i', e, f1, f2, f3⟩
        · cases e
        · simp only [Option.map_some, Option.some.injEq] at e
          have := c.rel lo
          rw [e] at this
          simp only [VRel] at this
          subst e3
          simp [hv, hb, this, sliceBound_run f1 f2, f3]

theorem bnd_le {x : Option AV} {dflt n l : Nat} (h : bnd x dflt n = some l) (hd : dflt ≤ n) : l ≤ n := by
  rcases bnd_ok h with ⟨_, e⟩ | ⟨k, i, _, e1, e2, e3⟩ <;> omega

theorem mk_extract (l : List UInt8) (a b : Nat) : (⟨l.toArray⟩ : ByteArray).extract a b = ⟨((l.drop a).take (b - a)).toArray⟩ := by
  apply ByteArray.ext
  rw [ByteArray.data_extract]
  simp [List.extract_toArray, List.extract]

def pSlice (T : Tr TypeInfo) (t : TypeId) (x : AV) (low high : Option AV) : Plan :=
  match tyU T t with
  | some (.array n e) => match bnd high n n with
    | some h => match bnd low 0 h with
      | some l => match T.get e with
        | some i => match x with
          | .ptr o off => .ret (.slc o (if n = l then off else off + l * i.size) (h - l) (n - l))
          | _ => .fail
        | none => .fail
      | none => .fail
    | none => .fail
  | some .string => match x with
    | .str b => match bnd high b.length b.length with
      | some h => match bnd low 0 h with
        | some l => .ret (.str ((b.drop l).take (h - l)))
        | none => .fail
      | none => .fail
    | _ => .fail
  | some (.slice e) => match T.get e with
    | some i => match x with
      | .lst xs n own => match bnd high n n with
        | some h => match bnd low 0 h with
          | some l => .chk (decide (l * i.size ≤ xs.length)) (match takeN ((h - l) * i.size) (dropN (l * i.size) xs) with
            | some xs' => .ret (.lst xs' (h - l) (match own with
              | .full => if h = n then .full else .no
              | _ => .no))
            | none => .fail)
          | none => .fail
        | none => .fail
      | .slc o off len cap => match bnd high len cap with
        | some h => match bnd low 0 h with
          | some l => .ret (.slc o (if cap = l then off else off + l * i.size) (h - l) (cap - l))
          | none => .fail
        | none => .fail
      | .nils => match bnd high 0 0 with
        | some h => match bnd low 0 h with
          | some _ => .ret .nils
          | none => .fail
        | none => .fail
      | _ => .fail
    | none => .fail
  | _ => .fail

theorem pSlice_ok (c : OCtx P T F g B w H s ev ρ) {t : TypeId} {x : Operand} {low high : Option Operand} (h : EvF s (pSlice T t (ev x) (low.map ev) (high.map ev)) H.o r R W) :
    OpRes g B w H W ((do let v ← Instr.sliceAt t (ρ x) (low.map ρ) (high.map ρ) none; pure (.value v) : Sem Next).run P w) r := by
  have hx := c.rel x
  have hlx := c.live x
  unfold pSlice at h
  split at h
  · rename_i n e hu
    have hu' := run_underlying_ok c.T hu w
    split at h <;> try exact h.elim
    rename_i hi hhi
    split at h <;> try exact h.elim
    rename_i lo hlo
    have hb := sliceBounds_ok c (isS := false) (m := n) hhi hlo (Nat.le_refl _)
    split at h <;> try exact h.elim
    rename_i i hinf
    have hsz := run_sizeOf_ok c.T hinf w
    split at h <;> try exact h.elim
    rename_i o off ex
    rw [ex] at hx hlx
    simp only [VRel] at hx
    obtain ⟨rfl, rfl⟩ := evF_ret h
    refine OpRes.pure c.h (u := .slice (some ⟨g.ob o, if n = lo then off else off + lo * i.size, none⟩) (hi - lo) (n - lo)) ?_ (by simp [VRel]) hlx
    simp only [Instr.sliceAt, Sem.run_bind, hu', Result.andThen_ok, hx, Instr.sureAddr, Sem.run_pure, hb, hsz]
    by_cases e : n = lo
    · simp [e]
    · simp [e, add_none]
  · rename_i hu
    have hu' := run_underlying_ok c.T hu w
    split at h <;> try exact h.elim
    rename_i b ex
    rw [ex] at hx
    simp only [VRel] at hx
    split at h <;> try exact h.elim
    rename_i hi hhi
    split at h <;> try exact h.elim
    rename_i lo hlo
    obtain ⟨rfl, rfl⟩ := evF_ret h
    have hb := sliceBounds_ok c (isS := false) (m := b.length) hhi hlo (Nat.le_refl _)
    have es : (⟨b.toArray⟩ : ByteArray).size = b.length := rfl
    refine OpRes.pure c.h (u := .string ⟨((b.drop lo).take (hi - lo)).toArray⟩) ?_ (by simp [VRel]) trivial
    simp [Instr.sliceAt, hu', hx, Instr.slice, es, hb, mk_extract]
  · rename_i e hu
    have hu' := run_underlying_ok c.T hu w
    split at h <;> try exact h.elim
    rename_i i hinf
    have hsz := run_sizeOf_ok c.T hinf w
    split at h
    · rename_i xs n own ex
      rw [ex] at hx hlx
      simp only [VRel] at hx
      obtain ⟨b, off, cap, e1, h1, h2, h3, h4⟩ := hx
      split at h <;> try exact h.elim
      rename_i hi hhi
      split at h <;> try exact h.elim
      rename_i lo hlo
      obtain ⟨hlen, h⟩ := h
      have hlen := of_decide_eq_true hlen
      split at h <;> try exact h.elim
      rename_i xs' hxs
      obtain ⟨rfl, rfl⟩ := evF_ret h
      obtain ⟨k1, k2⟩ := takeN_eq hxs
      rw [dropN_eq] at k1
      have hb := sliceBounds_ok c (isS := true) (m := cap) hhi hlo h1
      have g1 := bnd_le hhi (Nat.le_refl _)
      have g2 := bnd_le hlo (Nat.zero_le _)
      have k3 : xs'.length ≤ xs.length - lo * i.size := by rw [k1]; simp; omega
      refine OpRes.pure c.h (u := .slice (some ⟨b, if cap = lo then off else off + lo * i.size, none⟩) (hi - lo) (cap - lo)) ?_ ?_ ⟨?_, ?_⟩
      · simp only [Instr.sliceAt, Sem.run_bind, hu', Result.andThen_ok, e1, Instr.slice, hb, hsz]
        by_cases e : cap = lo
        · simp [e]
        · simp [e, add_none]
      · simp only [VRel]
        refine ⟨b, _, _, rfl, by omega, ?_, ?_, ?_⟩
        · split
          · have : hi - lo = 0 := by omega
            rw [this, Nat.zero_mul] at k2
            omega
          · omega
        · split
          · have : hi - lo = 0 := by omega
            rw [this, Nat.zero_mul] at k2
            rw [List.length_eq_zero_iff.1 k2]
            trivial
          · refine LRel.of_get _ _ fun j a ha => ?_
            rw [k1, List.getElem?_take, List.getElem?_drop] at ha
            split at ha
            · have := h3.get xs off _ a ha
              rwa [Nat.add_assoc]
            · cases ha
        · cases own
          · trivial
          · simp only
            split
            · have h4 : cap = n := h4
              show cap - lo = hi - lo
              omega
            · trivial
          · trivial
      · rw [k1]; exact (Lives.drop hlx.1 _).take _
      · intro cc hcc
        cases own <;> simp only at hcc <;> (try split at hcc) <;> cases hcc
    · rename_i o off len cap ex
      rw [ex] at hx hlx
      simp only [VRel] at hx
      split at h <;> try exact h.elim
      rename_i hi hhi
      split at h <;> try exact h.elim
      rename_i lo hlo
      obtain ⟨rfl, rfl⟩ := evF_ret h
      have hb := sliceBounds_ok c (isS := true) (m := cap) hhi hlo (Nat.le_refl _)
      refine OpRes.pure c.h (u := .slice (some ⟨g.ob o, if cap = lo then off else off + lo * i.size, none⟩) (hi - lo) (cap - lo)) ?_ (by simp [VRel]) hlx
      simp only [Instr.sliceAt, Sem.run_bind, hu', Result.andThen_ok, hx, Instr.slice, hb, hsz]
      by_cases e : cap = lo
      · simp [e]
      · simp [e, add_none]
    · rename_i ex
      rw [ex] at hx
      simp only [VRel] at hx
      split at h <;> try exact h.elim
      rename_i hi hhi
      split at h <;> try exact h.elim
      rename_i lo hlo
      obtain ⟨rfl, rfl⟩ := evF_ret h
      have hb := sliceBounds_ok c (isS := true) (m := 0) hhi hlo (Nat.le_refl _)
      have g1 := bnd_le hhi (Nat.le_refl _)
      have g2 := bnd_le hlo (Nat.zero_le _)
      have e1 : hi = 0 := by omega
      have e2 : lo = 0 := by omega
      subst e1; subst e2
      refine OpRes.pure c.h (u := .slice none 0 0) ?_ (by simp [VRel]) trivial
      simp [Instr.sliceAt, hu', hx, Instr.slice, hb, hsz]
    · exact h.elim
  · exact h.elim

end
end
end Go.Abs
