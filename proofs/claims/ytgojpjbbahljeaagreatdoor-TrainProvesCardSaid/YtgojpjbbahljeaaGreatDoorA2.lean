/-
  Abstract objects, the heap's relation, and how it is handed on.
-/
import Derived.Test.YtgojpjbbahljeaaGreatDoorA1
/-! Abstract objects, the heap's relation, and how it is handed on. -/
namespace Go.Abs
open Go
noncomputable section

inductive AObj where
  | hole
  | cells (t : Tr AV) (n : Nat) (ty : TypeId)
  | chain (n sz : Nat) (ty : TypeId)
  | mapo (es : List (AV × AV))
  | siter (s : List UInt8) (pos : Nat)
  | loop (st : LoopState) (fn : FuncId) (tm : Tr AV) (nt : Nat) (params : List Tmp) (assign body : Code) (dfr : Nat)
  | dfr (taken : Bool)

/-- The heap, as a function. -/
structure AH where
  n : Nat
  keep : Nat
  o : Nat → AObj

def AH.L (H : AH) (i : Nat) : Prop := H.o i ≠ .hole

def Gh.bk (g : Gh) : AObj → Nat → Nat
  | .chain .., i => g.cb i
  | _, i => g.ob i

def MRel (g : Gh) (w : World) : List (AV × AV) → List MapEntry → Prop
  | [], es => es = []
  | (k, v) :: r, es => ∃ e es', es = e :: es' ∧ VRel g w k e.key ∧ VRel g w v e.val ∧ MRel g w r es'

/-- Temporaries: a tree of n places, and an array of n values. -/
def TRel (g : Gh) (w : World) (t : Tr AV) (n : Nat) (arr : Array Value) : Prop :=
  arr.size = n ∧ ∀ j, j < n → ∃ a v, t.get j = some a ∧ arr[j]? = some v ∧ VRel g w a v

/-- The temporaries of a loop over a function. -/
def LTRel (g : Gh) (w : World) (t : Tr AV) (arr : Array Value) : Prop := ∀ j a, t.get j = some a → j < arr.size ∧ VRel g w a (arr.getD j undef)

def ORel (g : Gh) (w : World) (i : Nat) : AObj → Prop
  | .hole => True
  | .cells t n ty => ∃ arr, w.heap[g.ob i]? = some (.cells arr ty (0, 0)) ∧ g.im (g.ob i) = 0 ∧ TRel g w t n arr
  | .chain n sz ty => ∃ arr, w.heap[g.cb i]? = some (.cells arr ty (0, 0)) ∧ g.im (g.cb i) = n * sz ∧ n ≤ g.cc i ∧ g.cc i * sz = arr.size ∧ g.cn i = n
  | .mapo es => ∃ ces ck, w.heap[g.ob i]? = some (.map ces ck) ∧ g.im (g.ob i) = 0 ∧ MRel g w es ces.toList
  | .siter s pos => w.heap[g.ob i]? = some (.stringIter ⟨s.toArray⟩ pos) ∧ g.im (g.ob i) = 0
  | .loop st _ tm _ params assign body dfr => ∃ l : Loop, w.heap[g.ob i]? = some (.loop l) ∧ g.im (g.ob i) = 0 ∧ l.state = st ∧ l.pending = none ∧
      LTRel g w tm l.tmps ∧ l.params.toList = params ∧ l.assign = assign ∧ l.body = body ∧ l.defers = g.ob dfr
  | .dfr taken => w.heap[g.ob i]? = some (.deferred (if taken then none else some [])) ∧ g.im (g.ob i) = 0

def TrLive (L : Nat → Prop) (t : Tr AV) : Prop := ∀ j a, t.get j = some a → Live L a

def MLive (L : Nat → Prop) : List (AV × AV) → Prop
  | [] => True
  | (k, v) :: r => Live L k ∧ Live L v ∧ MLive L r

def OLive (L : Nat → Prop) : AObj → Prop
  | .cells t _ _ => TrLive L t
  | .mapo es => MLive L es
  | .loop _ _ tm _ _ _ _ dfr => TrLive L tm ∧ L dfr
  | _ => True

/-- The references of an object are below the greater of its own number, and m. -/
def OBd (m : Nat) : AObj → Prop
  | .cells t _ _ => ∀ j a, t.get j = some a → bd a ≤ m
  | .mapo es => ∀ p, p ∈ es → bd p.1 ≤ m ∧ bd p.2 ≤ m
  | .loop _ _ tm _ _ _ _ dfr => (∀ j a, tm.get j = some a → bd a ≤ m) ∧ dfr < m
  | _ => True

structure HRel (g : Gh) (B : Nat) (w : World) (H : AH) : Prop where
  wf : ∀ i, H.n ≤ i → H.o i = .hole
  ge : ∀ i, H.o i ≠ .hole → B ≤ g.bk (H.o i) i ∧ g.bk (H.o i) i < w.heap.size
  inj : ∀ i j, H.o i ≠ .hole → H.o j ≠ .hole → g.bk (H.o i) i = g.bk (H.o j) j → i = j
  rel : ∀ i, ORel g w i (H.o i)
  live : ∀ i, OLive H.L (H.o i)
  kp : ∀ i, OBd (max (i + 1) H.keep) (H.o i)
  imz : ∀ b, w.heap.size ≤ b → g.im b = 0
  hB : B ≤ w.heap.size

theorem MRel.ext {L : Nat → Prop} {g g' : Gh} {w w' : World} (hx : Ext L g w g' w') : ∀ (es : List (AV × AV)) (ces : List MapEntry), MLive L es → MRel g w es ces → MRel g' w' es ces
  | [], _, _, h => h
  | (k, v) :: r, ces, hl, h => by
    obtain ⟨e, es', e1, h1, h2, h3⟩ := h
    exact ⟨e, es', e1, h1.ext hx _ _ hl.1, h2.ext hx _ _ hl.2.1, MRel.ext hx r es' hl.2.2 h3⟩

theorem TRel.ext {L : Nat → Prop} {g g' : Gh} {w w' : World} (hx : Ext L g w g' w') {t : Tr AV} {n : Nat} {arr : Array Value} (hl : TrLive L t)
    (h : TRel g w t n arr) : TRel g' w' t n arr :=
  ⟨h.1, fun j hj => let ⟨a, v, h1, h2, h3⟩ := h.2 j hj; ⟨a, v, h1, h2, h3.ext hx _ _ (hl j a h1)⟩⟩

theorem LTRel.ext {L : Nat → Prop} {g g' : Gh} {w w' : World} (hx : Ext L g w g' w') {t : Tr AV} {arr : Array Value} (hl : TrLive L t)
    (h : LTRel g w t arr) : LTRel g' w' t arr :=
  fun j a hj => ⟨(h j a hj).1, (h j a hj).2.ext hx _ _ (hl j a hj)⟩

theorem ORel.ext {L : Nat → Prop} {g g' : Gh} {w w' : World} (hx : Ext L g w g' w') {i : Nat} {o : AObj} (hl : OLive L o) (hi : L i)
    (hb : w'.heap[g.bk o i]? = w.heap[g.bk o i]?) (him : g'.im (g.bk o i) = g.im (g.bk o i)) (hcn : g'.cn i = g.cn i) (h : ORel g w i o) : ORel g' w' i o := by
  have hob := hx.ob i hi
  cases o with
  | hole => trivial
  | cells t n ty =>
    obtain ⟨arr, h1, h2, h3⟩ := h
    simp only [Gh.bk] at hb him
    exact ⟨arr, by rw [hob, hb]; exact h1, by rw [hob, him]; exact h2, h3.ext hx hl⟩
  | chain n sz ty =>
    obtain ⟨arr, h1, h2, h3, h4, h5⟩ := h
    simp only [Gh.bk] at hb him
    obtain ⟨e1, e2⟩ := hx.cb i hi hcn
    exact ⟨arr, by rw [e1, hb]; exact h1, by rw [e1, him]; exact h2, by rw [e2]; exact h3, by rw [e2]; exact h4, by rw [hcn]; exact h5⟩
  | mapo es =>
    obtain ⟨ces, ck, h1, h2, h3⟩ := h
    simp only [Gh.bk] at hb him
    exact ⟨ces, ck, by rw [hob, hb]; exact h1, by rw [hob, him]; exact h2, h3.ext hx _ _ hl⟩
  | siter s pos =>
    obtain ⟨h1, h2⟩ := h
    simp only [Gh.bk] at hb him
    exact ⟨by rw [hob, hb]; exact h1, by rw [hob, him]; exact h2⟩
  | loop st fn tm nt params assign body dfr =>
    obtain ⟨l, h1, h2, h3, h4, h6, h7, h8, h9, h10⟩ := h
    simp only [Gh.bk] at hb him
    exact ⟨l, by rw [hob, hb]; exact h1, by rw [hob, him]; exact h2, h3, h4, h6.ext hx hl.1, h7, h8, h9, by rw [hx.ob dfr hl.2]; exact h10⟩
  | dfr taken =>
    obtain ⟨h1, h2⟩ := h
    simp only [Gh.bk] at hb him
    exact ⟨by rw [hob, hb]; exact h1, by rw [hob, him]; exact h2⟩

theorem Ext.bk {L : Nat → Prop} {g g' : Gh} {w w' : World} (hx : Ext L g w g' w') {i : Nat} (o : AObj) (hi : L i) (hcn : g'.cn i = g.cn i) : g'.bk o i = g.bk o i := by
  cases o <;> simp only [Gh.bk]
  all_goals first
    | exact (hx.cb i hi hcn).1
    | exact hx.ob i hi

theorem MLive.mono {L L' : Nat → Prop} (hx : ∀ i, L i → L' i) : ∀ (es : List (AV × AV)), MLive L es → MLive L' es
  | [], _ => trivial
  | (_, _) :: r, h => ⟨h.1.mono hx, h.2.1.mono hx, MLive.mono hx r h.2.2⟩

theorem OLive.mono {L L' : Nat → Prop} (hx : ∀ i, L i → L' i) {o : AObj} (h : OLive L o) : OLive L' o := by
  cases o <;> first
    | trivial
    | exact fun j a hj => (h j a hj).mono hx
    | exact MLive.mono hx _ h
    | exact ⟨fun j a hj => (h.1 j a hj).mono hx, hx _ h.2⟩

theorem OBd.mono {m m' : Nat} (hm : m ≤ m') {o : AObj} (h : OBd m o) : OBd m' o := by
  cases o <;> first
    | trivial
    | exact fun j a hj => Nat.le_trans (h j a hj) hm
    | exact fun p hp => ⟨Nat.le_trans (h p hp).1 hm, Nat.le_trans (h p hp).2 hm⟩
    | exact ⟨fun j a hj => Nat.le_trans (h.1 j a hj) hm, Nat.lt_of_lt_of_le h.2 hm⟩

/-- One object is new, or another one than it was; the others' blocks are as they were. -/
theorem HRel.upd {g g' : Gh} {B : Nat} {w w' : World} {H H' : AH} (h : HRel g B w H) {i : Nat} {x : AObj} (hx : Ext H.L g w g' w')
    (hH : ∀ j, H'.o j = if j = i then x else H.o j) (hne : x ≠ .hole)
    (hoth : ∀ j, j ≠ i → H.o j ≠ .hole → w'.heap[g.bk (H.o j) j]? = w.heap[g.bk (H.o j) j]? ∧ g'.im (g.bk (H.o j) j) = g.im (g.bk (H.o j) j) ∧ g'.cn j = g.cn j)
    (hsz : w.heap.size ≤ w'.heap.size) (himz : ∀ b, w'.heap.size ≤ b → g'.im b = 0)
    (hbk : B ≤ g'.bk x i ∧ g'.bk x i < w'.heap.size) (hinj : ∀ j, j ≠ i → H.o j ≠ .hole → g'.bk x i ≠ g.bk (H.o j) j)
    (hrel : ORel g' w' i x) (hlive : OLive H'.L x) (hkp : OBd (max (i + 1) H'.keep) x) (hkeep : H.keep ≤ H'.keep) (hn : H.n ≤ H'.n) (hi : i < H'.n) : HRel g' B w' H' := by
  have hL : ∀ j, H.L j → H'.L j := fun j hj => by
    unfold AH.L at *
    rw [hH]; split
    · exact hne
    · exact hj
  have hbk' : ∀ j, j ≠ i → H.o j ≠ .hole → g'.bk (H.o j) j = g.bk (H.o j) j := fun j hj hjh => hx.bk _ hjh (hoth j hj hjh).2.2
  constructor
  · intro j hj
    rw [hH, if_neg (by omega)]
    exact h.wf j (by omega)
  · intro j hj
    rw [hH] at hj ⊢
    by_cases e : j = i
    · subst e; simp only [if_true] at *; exact hbk
    · simp only [if_neg e] at *
      rw [hbk' j e hj]
      exact ⟨(h.ge j hj).1, Nat.lt_of_lt_of_le (h.ge j hj).2 hsz⟩
  · intro j k hj hk
    rw [hH] at hj ⊢
    rw [hH k] at hk ⊢
    by_cases ej : j = i <;> by_cases ek : k = i
    · intro _; rw [ej, ek]
    · simp only [if_pos ej, if_neg ek] at *
      rw [hbk' k ek hk]
      intro e
      subst ej
      exact absurd e (hinj k ek hk)
    · simp only [if_neg ej, if_pos ek] at *
      rw [hbk' j ej hj]
      intro e
      subst ek
      exact absurd e.symm (hinj j ej hj)
    · simp only [if_neg ej, if_neg ek] at *
      rw [hbk' j ej hj, hbk' k ek hk]
      exact h.inj j k hj hk
  · intro j
    rw [hH]
    by_cases e : j = i
    · subst e; simp only [if_true]; exact hrel
    · simp only [if_neg e]
      by_cases hjh : H.o j = .hole
      · rw [hjh]; trivial
      · obtain ⟨a1, a2, a3⟩ := hoth j e hjh
        exact (h.rel j).ext hx (h.live j) hjh a1 a2 a3
  · intro j
    rw [hH]
    by_cases e : j = i
    · simp only [if_pos e]; exact hlive
    · simp only [if_neg e]; exact (h.live j).mono hL
  · intro j
    rw [hH]
    by_cases e : j = i
    · subst e; simp only [if_true]; exact hkp
    · simp only [if_neg e]; exact (h.kp j).mono (by omega)
  · exact himz
  · exact Nat.le_trans h.hB hsz

/-- Another world of the same heap. -/
theorem Ext.of_heap {L : Nat → Prop} {g : Gh} {w w' : World} (h : w'.heap = w.heap) : Ext L g w g w' :=
  ⟨fun _ _ => rfl, fun _ _ => Nat.le_refl _, fun _ _ _ => ⟨rfl, rfl⟩, fun _ => Nat.le_refl _, fun b j _ => by simp [World.cell?, h]⟩

theorem HRel.of_heap {g : Gh} {B : Nat} {w w' : World} {H : AH} (hr : HRel g B w H) (h : w'.heap = w.heap) : HRel g B w' H := by
  constructor
  · exact hr.wf
  · intro i hi; rw [h]; exact hr.ge i hi
  · exact hr.inj
  · intro i
    by_cases e : H.o i = .hole
    · rw [e]; trivial
    · exact (hr.rel i).ext (Ext.of_heap (L := H.L) h) (hr.live i) e (by rw [h]) rfl rfl
  · exact hr.live
  · exact hr.kp
  · intro b hb; rw [h] at hb; exact hr.imz b hb
  · rw [h]; exact hr.hB

/-- Objects from m on are dropped. -/
def AH.cut (H : AH) (m : Nat) : AH := { n := m, keep := H.keep, o := fun i => if i < m then H.o i else .hole }

theorem TrLive.below {L : Nat → Prop} {n : Nat} {t : Tr AV} (h : TrLive L t) (hb : ∀ j a, t.get j = some a → bd a ≤ n) : TrLive (fun i => L i ∧ i < n) t :=
  fun j a hj => (h j a hj).below _ (hb j a hj)

theorem MLive.below {L : Nat → Prop} {n : Nat} : ∀ (es : List (AV × AV)), MLive L es → (∀ p, p ∈ es → bd p.1 ≤ n ∧ bd p.2 ≤ n) → MLive (fun i => L i ∧ i < n) es
  | [], _, _ => trivial
  | (k, v) :: r, h, hb => ⟨h.1.below _ (hb (k, v) (List.mem_cons_self ..)).1, h.2.1.below _ (hb (k, v) (List.mem_cons_self ..)).2,
      MLive.below r h.2.2 fun p hp => hb p (List.mem_cons_of_mem _ hp)⟩

theorem OLive.below {L : Nat → Prop} {n : Nat} {o : AObj} (h : OLive L o) (hb : OBd n o) : OLive (fun i => L i ∧ i < n) o := by
  cases o <;> first
    | trivial
    | exact TrLive.below h hb
    | exact MLive.below _ h hb
    | exact ⟨TrLive.below h.1 hb.1, h.2, hb.2⟩

theorem AH.cut_L {H : AH} {m i : Nat} : (H.cut m).L i ↔ H.L i ∧ i < m := by
  unfold AH.L AH.cut
  by_cases e : i < m <;> simp [e]

theorem HRel.cut {g : Gh} {B : Nat} {w : World} {H : AH} (h : HRel g B w H) {m : Nat} (hk : H.keep ≤ m) : HRel g B w (H.cut m) := by
  have ho : ∀ i, (H.cut m).o i = if i < m then H.o i else .hole := fun _ => rfl
  constructor
  · intro i hi
    rw [ho, if_neg (by have : (H.cut m).n = m := rfl; omega)]
  · intro i hi
    rw [ho] at hi ⊢
    by_cases e : i < m
    · simp only [if_pos e] at *; exact h.ge i hi
    · simp [e] at hi
  · intro i j hi hj
    rw [ho] at hi ⊢
    rw [ho j] at hj ⊢
    by_cases e : i < m
    · by_cases e2 : j < m
      · simp only [if_pos e, if_pos e2] at *; exact h.inj i j hi hj
      · simp [e2] at hj
    · simp [e] at hi
  · intro i
    rw [ho]
    by_cases e : i < m
    · simp only [if_pos e]; exact h.rel i
    · simp only [if_neg e]; trivial
  · intro i
    rw [ho]
    by_cases e : i < m
    · simp only [if_pos e]
      refine OLive.mono (fun j hj => AH.cut_L.2 hj) (OLive.below (h.live i) ((h.kp i).mono (m' := m) (by omega)))
    · simp only [if_neg e]; trivial
  · intro i
    rw [ho]
    by_cases e : i < m
    · simp only [if_pos e]; exact h.kp i
    · simp only [if_neg e]; trivial
  · exact h.imz
  · exact h.hB

/-- More places, all of them holes. -/
def AH.room (H : AH) (k : Nat) : AH := { H with n := H.n + k }

theorem HRel.room {g : Gh} {B : Nat} {w : World} {H : AH} (h : HRel g B w H) (k : Nat) : HRel g B w (H.room k) :=
  { wf := fun i hi => h.wf i (by have : (H.room k).n = H.n + k := rfl; omega), ge := h.ge, inj := h.inj, rel := h.rel, live := h.live, kp := h.kp, imz := h.imz, hB := h.hB }

end
end Go.Abs
