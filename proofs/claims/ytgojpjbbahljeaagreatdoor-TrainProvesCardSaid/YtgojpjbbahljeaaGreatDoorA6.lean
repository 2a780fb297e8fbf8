/-
  Plans of the operations on values and cells, and that they are right.
-/
import Derived.Test.YtgojpjbbahljeaaGreatDoorA5
/-! Plans of the operations on values and cells, and that they are right. -/
namespace Go.Abs
open Go
noncomputable section

def cellsOf : AV → Option (List AV)
  | .agg cs => some cs
  | .unk => none
  | .tup _ => none
  | v => some [v]

theorem cellsOf_ok {g : Gh} {w : World} {L : Nat → Prop} {a : AV} {v : Value} {cs : List AV} (h : cellsOf a = some cs) (hv : VRel g w a v) (hl : Live L a) :
    VRels g w cs v.cells.toList ∧ Lives L cs := by
  cases a <;> simp only [cellsOf, Option.some.injEq, reduceCtorEq] at h
  case agg cs' =>
    subst h
    obtain ⟨vs, e, h1⟩ := hv
    subst e
    exact ⟨h1, hl⟩
  all_goals
    subst h
    refine ⟨?_, hl, trivial⟩
    simp only [VRels]
    refine ⟨v, [], ?_, hv, rfl⟩
    simp only [VRel] at hv
    first
      | (subst hv; rfl)
      | (obtain ⟨_, _, e, _⟩ := hv; subst e; rfl)
      | (obtain ⟨_, _, _, e, _⟩ := hv; subst e; rfl)
      | (obtain ⟨_, e, _⟩ := hv; subst e; rfl)

def isCell : AV → Bool
  | .agg _ => false
  | .unk => false
  | .tup _ => false
  | _ => true

theorem isCell_ok {g : Gh} {w : World} {a : AV} {v : Value} (h : isCell a = true) (hv : VRel g w a v) : v.oneCell' = true := by
  cases a <;> simp only [isCell, Bool.false_eq_true] at h <;> simp only [VRel] at hv
  all_goals first
      | (subst hv; rfl)
      | (obtain ⟨_, _, e, _⟩ := hv; subst e; rfl)
      | (obtain ⟨_, _, _, e, _⟩ := hv; subst e; rfl)
      | (obtain ⟨_, e, _⟩ := hv; subst e; rfl)

def allCells : List AV → Bool
  | [] => true
  | x :: xs => match isCell x with
    | true => allCells xs
    | false => false

theorem allCells_ok {g : Gh} {w : World} : ∀ {xs : List AV} {vs : List Value}, allCells xs = true → VRels g w xs vs → ∀ v ∈ vs, v.oneCell' = true
  | [], vs, _, h, v, hv => by simp only [VRels] at h; subst h; cases hv
  | x :: xs, vs, ha, h, v, hv => by
    simp only [VRels] at h
    obtain ⟨u, us, e, h1, h2⟩ := h
    subst e
    simp only [allCells] at ha
    cases hx : isCell x with
    | false => rw [hx] at ha; cases ha
    | true =>
      rw [hx] at ha
      rcases List.mem_cons.1 hv with e | hv
      · subst e; exact isCell_ok hx h1
      · exact allCells_ok ha h2 v hv

def zeroOf (T : Tr TypeInfo) (t : TypeId) : Option (List AV) :=
  match T.get t with
  | some i => match i.zero with
    | some z => some (ofVs z.cells.toList)
    | none => none
  | none => none

theorem zeroOf_ok {P : Program} {T : Tr TypeInfo} (hT : TOK P T) {t : TypeId} {cs : List AV} (h : zeroOf T t = some cs) :
    ∃ z, (∀ w, (zeroValue t).run P w = .ok z w) ∧ cs = ofVs z.cells.toList := by
  unfold zeroOf at h
  cases hi : T.get t with
  | none => rw [hi] at h; cases h
  | some i =>
    rw [hi] at h
    simp only at h
    cases hz : i.zero with
    | none => rw [hz] at h; cases h
    | some z =>
      rw [hz] at h
      simp only [Option.some.injEq] at h
      exact ⟨z, fun w => run_zeroValue_ok hT hi hz w, h.symm⟩

def loadN (t : Tr AV) : Nat → Nat → Option (List AV)
  | _, 0 => some []
  | off, n + 1 => match t.get off with
    | some v => match loadN t (off + 1) n with
      | some l => some (v :: l)
      | none => none
    | none => none

theorem loadN_ok {t : Tr AV} : ∀ {n off : Nat} {l : List AV}, loadN t off n = some l → l.length = n ∧ ∀ j, j < n → t.get (off + j) = l[j]?
  | 0, off, l, h => by simp [loadN] at h; subst h; simp
  | n + 1, off, l, h => by
    simp only [loadN] at h
    cases hv : t.get off with
    | none => rw [hv] at h; cases h
    | some v =>
      rw [hv] at h
      simp only at h
      cases hl : loadN t (off + 1) n with
      | none => rw [hl] at h; cases h
      | some l' =>
        rw [hl] at h
        simp only [Option.some.injEq] at h
        subst h
        obtain ⟨h1, h2⟩ := loadN_ok hl
        refine ⟨by simp [h1], fun j hj => ?_⟩
        cases j with
        | zero => simpa using hv
        | succ j => rw [show off + (j + 1) = off + 1 + j by omega, h2 j (by omega)]; simp

def dropN : Nat → List AV → List AV
  | 0, l => l
  | _ + 1, [] => []
  | n + 1, _ :: l => dropN n l

def takeN : Nat → List AV → Option (List AV)
  | 0, _ => some []
  | _ + 1, [] => none
  | n + 1, x :: l => match takeN n l with
    | some r => some (x :: r)
    | none => none

theorem dropN_eq : ∀ (n : Nat) (l : List AV), dropN n l = l.drop n
  | 0, l => by simp [dropN]
  | n + 1, [] => by simp [dropN]
  | n + 1, _ :: l => by simp [dropN, dropN_eq n l]

theorem takeN_eq : ∀ {n : Nat} {l r : List AV}, takeN n l = some r → r = l.take n ∧ r.length = n
  | 0, l, r, h => by simp [takeN] at h; subst h; simp
  | n + 1, [], r, h => by simp [takeN] at h
  | n + 1, x :: l, r, h => by
    simp only [takeN] at h
    cases hr : takeN n l with
    | none => rw [hr] at h; cases h
    | some r' =>
      rw [hr] at h
      simp only [Option.some.injEq] at h
      subst h
      obtain ⟨h1, h2⟩ := takeN_eq hr
      simp [← h1, h2]

def nth : List AV → Nat → Option AV
  | [], _ => none
  | x :: xs, i => match i with
    | 0 => some x
    | i + 1 => nth xs i

theorem nth_eq : ∀ (l : List AV) (i : Nat), nth l i = l[i]?
  | [], i => by simp [nth]
  | x :: xs, 0 => by simp [nth]
  | x :: xs, i + 1 => by simp [nth, nth_eq xs i]

def aggT (T : Tr TypeInfo) (t : TypeId) : Option Bool :=
  match tyU T t with
  | some (.struct _) => some true
  | some (.array _ _) => some true
  | some _ => some false
  | none => none

theorem aggT_ok {P : Program} {T : Tr TypeInfo} (hT : TOK P T) {t : TypeId} {b : Bool} (h : aggT T t = some b) (w : World) : (isAgg t).run P w = .ok b w := by
  unfold aggT at h
  cases hd : tyU T t with
  | none => rw [hd] at h; cases h
  | some d =>
    rw [hd] at h
    have h1 := run_underlying_ok hT hd w
    simp only [isAgg, Sem.run_bind, h1, Result.andThen_ok]
    cases d <;> simp only [Option.some.injEq] at h <;> subst h <;> rfl

def pLoad (T : Tr TypeInfo) (t : TypeId) (a : AV) : Plan :=
  match aggT T t with
  | some true => match T.get t with
    | some i => match a with
      | .ptr o off => .get o fun x => match x with
        | .cells tr n _ => .chk (decide (off + i.size ≤ n)) (match loadN tr off i.size with
          | some l => .ret (.agg l)
          | none => .fail)
        | _ => .fail
      | .lptr xs off => match takeN i.size (dropN off xs) with
        | some l => .ret (.agg l)
        | none => .fail
      | _ => .fail
    | none => .fail
  | some false => match a with
    | .ptr o off => .get o fun x => match x with
      | .cells tr n _ => .chk (decide (off < n)) (match tr.get off with
        | some v => .ret v
        | none => .fail)
      | _ => .fail
    | .lptr xs off => match nth xs off with
      | some v => .ret v
      | none => .fail
    | _ => .fail
  | none => .fail

section
variable {P : Program} {T : Tr TypeInfo} {F : Tr Func} {g : Gh} {B : Nat} {w : World} {H : AH} {s : Nat} {ev : Operand → AV} {ρ : Operand → Value} {r : PRes} {R : List Nat} {W : WL}

theorem add_none (b off i : Nat) : (⟨b, off, none⟩ : Addr).add i = ⟨b, off + i, none⟩ := by unfold Addr.add; split <;> simp_all

theorem HRel.cellAt (h : HRel g B w H) {o : Nat} {tr : Tr AV} {n : Nat} {ty : TypeId} (ho : H.o o = .cells tr n ty) {j : Nat} (hj : j < n) :
    ∃ a v, tr.get j = some a ∧ w.cell? ⟨g.ob o, j, none⟩ = some v ∧ VRel g w a v ∧ Live H.L a := by
  have hr := h.rel o
  rw [ho] at hr
  obtain ⟨arr, h1, h2, h3, h4⟩ := hr
  obtain ⟨a, v, e1, e2, e3⟩ := h4 j hj
  have hl := h.live o
  rw [ho] at hl
  exact ⟨a, v, e1, by simp [World.cell?, h1, e2], e3, hl j a e1⟩

theorem HRel.cellsAt (h : HRel g B w H) {o : Nat} {tr : Tr AV} {n : Nat} {ty : TypeId} (ho : H.o o = .cells tr n ty) {off k : Nat} (hk : off + k ≤ n) {l : List AV}
    (hl : l.length = k) (hg : ∀ j, j < k → tr.get (off + j) = l[j]?) :
    ∃ cs : List Value, cs.length = k ∧ (∀ (j : Nat) v, cs[j]? = some v → w.cell? ((⟨g.ob o, off, none⟩ : Addr).add j) = some v) ∧ VRels g w l cs ∧ Lives H.L l := by
  induction l generalizing off k with
  | nil =>
    simp at hl
    subst hl
    exact ⟨[], rfl, fun j v hv => by simp at hv, by simp [VRels], trivial⟩
  | cons x xs ih =>
    simp at hl
    subst hl
    obtain ⟨a, v, e1, e2, e3, e4⟩ := h.cellAt ho (j := off) (by omega)
    have e5 := hg 0 (by omega)
    simp only [Nat.add_zero, e1, List.getElem?_cons_zero, Option.some.injEq] at e5
    subst e5
    obtain ⟨cs, h1, h2, h3, h4⟩ := ih (off := off + 1) (k := xs.length) (by omega) rfl (fun j hj => by
      have := hg (j + 1) (by omega)
      rw [show off + (j + 1) = off + 1 + j by omega] at this
      simpa using this)
    refine ⟨v :: cs, by simp [h1], fun j u hu => ?_, ?_, e4, h4⟩
    · cases j with
      | zero => simp at hu; subst hu; simpa [add_none] using e2
      | succ j =>
        have := h2 j u (by simpa using hu)
        rw [add_none] at this ⊢
        rwa [show off + (j + 1) = off + 1 + j by omega]
    · simp only [VRels]
      exact ⟨v, cs, rfl, e3, h3⟩

/-- A piece of an immutable row. -/
theorem LRel.piece {xs : List AV} {b o0 : Nat} (h : LRel g w xs b o0) {off k : Nat} {l : List AV} (hl : l = (xs.drop off).take k) (hk : l.length = k) :
    ∃ cs : List Value, cs.length = k ∧ (∀ (j : Nat) v, cs[j]? = some v → w.cell? ((⟨b, o0 + off, none⟩ : Addr).add j) = some v) ∧ VRels g w l cs := by
  have hg : ∀ j, j < k → ∃ a v, l[j]? = some a ∧ w.cell? ⟨b, o0 + off + j, none⟩ = some v ∧ VRel g w a v := fun j hj => by
    have e1 : l[j]? = some l[j] := List.getElem?_eq_getElem (by omega)
    have e2 : xs[off + j]? = some l[j] := by
      rw [← e1, hl, List.getElem?_take, List.getElem?_drop, if_pos hj]
    obtain ⟨v, e3, e4⟩ := h.get xs o0 (off + j) _ e2
    exact ⟨_, v, e1, by rwa [Nat.add_assoc], e4⟩
  clear hl h
  induction l generalizing off k with
  | nil =>
    simp at hk
    subst hk
    exact ⟨[], rfl, fun j v hv => by simp at hv, by simp [VRels]⟩
  | cons x xs' ih =>
    simp at hk
    subst hk
    obtain ⟨a, v, e1, e2, e3⟩ := hg 0 (by omega)
    simp at e1
    subst e1
    obtain ⟨cs, h1, h2, h3⟩ := ih (off := off + 1) (k := xs'.length) rfl (fun j hj => by
      obtain ⟨a', v', f1, f2, f3⟩ := hg (j + 1) (by omega)
      exact ⟨a', v', by simpa using f1, by rwa [show o0 + (off + 1) + j = o0 + off + (j + 1) by omega], f3⟩)
    refine ⟨v :: cs, by simp [h1], fun j u hu => ?_, ?_⟩
    · cases j with
      | zero => simp at hu; subst hu; simpa [add_none] using e2
      | succ j =>
        have := h2 j u (by simpa using hu)
        rw [add_none] at this ⊢
        rwa [show o0 + off + (j + 1) = o0 + (off + 1) + j by omega]
    · simp only [VRels]
      exact ⟨v, cs, rfl, e3, h3⟩

theorem Lives.take {L : Nat → Prop} : ∀ {xs : List AV}, Lives L xs → ∀ n, Lives L (xs.take n)
  | [], _, n => by simp [Lives]
  | x :: xs, h, 0 => by simp [Lives]
  | x :: xs, h, n + 1 => by simp only [List.take_succ_cons]; exact ⟨h.1, Lives.take h.2 n⟩
theorem Lives.drop {L : Nat → Prop} : ∀ {xs : List AV}, Lives L xs → ∀ n, Lives L (xs.drop n)
  | [], _, n => by simp [Lives]
  | x :: xs, h, 0 => by simpa using h
  | x :: xs, h, n + 1 => by simp only [List.drop_succ_cons]; exact Lives.drop h.2 n

theorem pLoad_ok (c : OCtx P T F g B w H s ev ρ) {t : TypeId} {x : Operand} (h : EvF s (pLoad T t (ev x)) H.o r R W) {f : Value → Next} (hf : f = Next.value) :
    OpRes g B w H W ((do let v ← Instr.loadAt t (ρ x); pure (f v) : Sem Next).run P w) r := by
  subst hf
  have hv := c.rel x
  have hl := c.live x
  unfold pLoad at h
  split at h
  · rename_i hag
    have hag' := aggT_ok c.T hag w
    split at h
    · rename_i i hi
      have hsz := run_sizeOf_ok c.T hi w
      split at h
      · rename_i o off hx
        rw [hx] at hv hl
        simp only [VRel] at hv
        obtain ⟨R', _, h⟩ := h
        simp only at h
        split at h
        · rename_i tr n ty ho
          obtain ⟨hb, h⟩ := h
          split at h
          · rename_i l hln
            obtain ⟨rfl, rfl⟩ := evF_ret h
            obtain ⟨h1, h2⟩ := loadN_ok hln
            obtain ⟨cs, e1, e2, e3, e4⟩ := c.h.cellsAt ho (by simpa using hb) h1 h2
            have := run_loadCells_list (P := P) w ⟨g.ob o, off, none⟩ cs e2
            rw [e1] at this
            refine OpRes.pure c.h (u := .agg cs.toArray) ?_ ?_ e4
            · simp [Instr.loadAt, Instr.sureAddr, hv, loadVar, hag', hsz, this]
            · simp only [VRel]
              exact ⟨_, rfl, by simpa using e3⟩
          · exact h.elim
        · exact h.elim
      · rename_i xs off hx
        rw [hx] at hv hl
        simp only [VRel] at hv
        obtain ⟨b, o0, hv, hb, hr⟩ := hv
        split at h
        · rename_i l hln
          obtain ⟨rfl, rfl⟩ := evF_ret h
          obtain ⟨h1, h2⟩ := takeN_eq hln
          rw [dropN_eq] at h1
          obtain ⟨cs, e1, e2, e3⟩ := hr.piece h1 h2
          have := run_loadCells_list (P := P) w ⟨b, o0 + off, none⟩ cs e2
          rw [e1] at this
          refine OpRes.pure c.h (u := .agg cs.toArray) ?_ ?_ ?_
          · simp [Instr.loadAt, Instr.sureAddr, hv, loadVar, hag', hsz, this]
          · simp only [VRel]
            exact ⟨_, rfl, by simpa using e3⟩
          · rw [h1]
            exact (Lives.drop hl off).take _
        · exact h.elim
      · exact h.elim
    · exact h.elim
  · rename_i hag
    have hag' := aggT_ok c.T hag w
    split at h
    · rename_i o off hx
      rw [hx] at hv hl
      simp only [VRel] at hv
      obtain ⟨R', _, h⟩ := h
      simp only at h
      split at h
      · rename_i tr n ty ho
        obtain ⟨hb, h⟩ := h
        split at h
        · rename_i a ha
          obtain ⟨rfl, rfl⟩ := evF_ret h
          obtain ⟨a', v, e1, e2, e3, e4⟩ := c.h.cellAt ho (j := off) (by simpa using hb)
          rw [ha] at e1
          injection e1 with e1
          subst e1
          refine OpRes.pure c.h (u := v) ?_ e3 e4
          simp [Instr.loadAt, Instr.sureAddr, hv, loadVar, hag', e2]
        · exact h.elim
      · exact h.elim
    · rename_i xs off hx
      rw [hx] at hv hl
      simp only [VRel] at hv
      obtain ⟨b, o0, hv, hb, hr⟩ := hv
      split at h
      · rename_i a ha
        obtain ⟨rfl, rfl⟩ := evF_ret h
        rw [nth_eq] at ha
        obtain ⟨v, e2, e3⟩ := hr.get xs o0 off a ha
        refine OpRes.pure c.h (u := v) ?_ e3 (Lives.mem xs a hl (List.mem_of_getElem? ha))
        simp [Instr.loadAt, Instr.sureAddr, hv, loadVar, hag', e2]
      · exact h.elim
    · exact h.elim
  · exact h.elim

def lenIs : List AV → Nat → Bool
  | [], n => match n with
    | 0 => true
    | _ => false
  | _ :: xs, n => match n with
    | 0 => false
    | n + 1 => lenIs xs n

theorem lenIs_ok : ∀ {xs : List AV} {n : Nat}, lenIs xs n = true → xs.length = n
  | [], 0, _ => rfl
  | [], n + 1, h => by simp [lenIs] at h
  | _ :: xs, 0, h => by simp [lenIs] at h
  | _ :: xs, n + 1, h => by simp only [lenIs] at h; simp [lenIs_ok h]

def pStore (T : Tr TypeInfo) (t : TypeId) (a v : AV) : Plan :=
  match cellsOf v with
  | some cs => match T.get t with
    | some i => .chk (lenIs cs i.size) (.chk (allCells cs) (match a with
      | .ptr o off => .setcs o off cs .skip
      | _ => .fail))
    | none => .fail
  | none => .fail

theorem pStore_ok (c : OCtx P T F g B w H s ev ρ) {t : TypeId} {a x : Operand} (h : EvF s (pStore T t (ev a) (ev x)) H.o r R W) :
    OpRes g B w H W ((do Instr.storeAt t (ρ a) (ρ x); pure .skip : Sem Next).run P w) r := by
  have hv := c.rel a
  unfold pStore at h
  split at h
  · rename_i cs hcs
    obtain ⟨hvs, hls⟩ := cellsOf_ok hcs (c.rel x) (c.live x)
    split at h
    · rename_i i hi
      have hsz := run_sizeOf_ok c.T hi w
      obtain ⟨h1, h2, h⟩ := h
      have h1 := lenIs_ok h1
      split at h
      · rename_i o off hx
        rw [hx] at hv
        simp only [VRel] at hv
        obtain ⟨R', W', tr, n, ty, t', _, ho, hn, hts, rfl, h⟩ := h
        obtain ⟨rfl, _, rfl⟩ := h
        obtain ⟨arr, e1, e2, e3⟩ := c.h.setCells ho hn hts hvs hls
        have hlen := hvs.length
        have e4 := run_storeCells_at P (g.ob o) off ty (ρ x).cells.toList 0 arr w e1 (by omega) (allCells_ok h2 hvs)
        refine ⟨g, _, ?_, e3⟩
        have e5 : (ρ x).cells.size = i.size := by rw [← Array.length_toList, hlen, h1]
        simp only [Nat.add_zero] at e4
        simp [Instr.storeAt, Instr.sureAddr, hv, storeVar, hsz, e5, e4]
      · exact h.elim
    · exact h.elim
  · exact h.elim

theorem newVar_run (P : Program) (t : TypeId) (v : Value) (w : World) : (newVar t v).run P w = .ok ⟨w.heap.size, 0, none⟩ (w.alloc (.cells v.cells t)) := by
  rfl

def pNewl (cs : List AV) (ty : TypeId) : Plan := .newl cs ty fun i => .ret (.ptr i 0)

theorem pNewl_ok (c : OCtx P T F g B w H s ev ρ) {cs : List AV} {ty : TypeId} {v : Value} (h : EvF s (pNewl cs ty) H.o r R W) (hv : VRels g w cs v.cells.toList) (hl : Lives H.L cs)
    {m : Sem Next} (hm : m.run P w = .ok (.value (.pointer (some ⟨w.heap.size, 0, none⟩))) (w.alloc (.cells v.cells ty))) : OpRes g B w H W (m.run P w) r := by
  obtain ⟨W', t, ht, rfl, h⟩ := h
  obtain ⟨rfl, rfl⟩ := evF_ret h
  obtain ⟨g', e1, e2⟩ := c.h.newCells c.s ht hv hl (ty := ty)
  refine ⟨_, g', _, hm, e1, ?_, ?_⟩
  · simp only [VRel]; rw [e2]
  · exact AH.put_L_same H s _ (by simp)

def pBox (ty : TypeId) (v : AV) : Plan :=
  match cellsOf v with
  | some cs => pNewl cs ty
  | none => .fail

theorem pBox_ok (c : OCtx P T F g B w H s ev ρ) {t : TypeId} {x : Operand} (h : EvF s (pBox t (ev x)) H.o r R W) :
    OpRes g B w H W ((do let v ← Instr.box t (ρ x); pure (.value v) : Sem Next).run P w) r := by
  unfold pBox at h
  split at h
  · rename_i cs hcs
    obtain ⟨hvs, hls⟩ := cellsOf_ok hcs (c.rel x) (c.live x)
    exact pNewl_ok c h hvs hls (by simp [Instr.box, newVar_run])
  · exact h.elim

def pAlloc (T : Tr TypeInfo) (ty : TypeId) : Plan :=
  match zeroOf T ty with
  | some cs => pNewl cs ty
  | none => .fail

theorem pAlloc_ok (c : OCtx P T F g B w H s ev ρ) {t : TypeId} (h : EvF s (pAlloc T t) H.o r R W) :
    OpRes g B w H W ((do let v ← Instr.alloc t true (.tuple #[]); pure (.value v) : Sem Next).run P w) r := by
  unfold pAlloc at h
  split at h
  · rename_i cs hcs
    obtain ⟨z, hz, rfl⟩ := zeroOf_ok c.T hcs
    exact pNewl_ok c h (ofVs_rel g w _) (ofVs_live _ _) (v := z) (by simp [Instr.alloc, hz, newVar_run])
  · exact h.elim

end
end
end Go.Abs
