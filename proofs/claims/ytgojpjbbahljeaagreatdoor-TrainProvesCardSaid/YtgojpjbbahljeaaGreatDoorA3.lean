/-
  Plans of operations; what they do to the heap.
-/
import Derived.Test.YtgojpjbbahljeaaGreatDoorA2
import Derived.Laws.CopyRow
import Derived.Laws.IdiomCopy
import Derived.Laws.CopyOwn
/-! Plans of operations; what they do to the heap. -/
namespace Go.Abs
open Go
noncomputable section

inductive Plan where
  | ret (v : AV)
  | skip
  | fail
  | chk (b : Bool) (k : Plan)
  | fL (xs : List AV) (k : List AV → Plan)
  | get (i : Nat) (k : AObj → Plan)
  | setcs (i off : Nat) (vs : List AV) (k : Plan)
  | seto (i : Nat) (x : AObj) (r : Nat) (k : Plan)
  | newl (cs : List AV) (ty : TypeId) (k : Nat → Plan)
  | newc (n : Nat) (x : AV) (ty : TypeId) (k : Nat → Plan)
  | newo (x : AObj) (k : Nat → Plan)
  | call (f : FuncId) (args : List AV)
  | yld (o : Nat) (args : List AV)
  | defr (f : FuncId) (args : List AV)
  | recover
  | panic (v : AV)

inductive PRes where
  | val (v : AV)
  | skip
  | call (f : FuncId) (args : List AV)
  | yld (o : Nat) (args : List AV)
  | defr (f : FuncId) (args : List AV)
  | recover
  | panic (v : AV)

def upd (o : Nat → AObj) (i : Nat) (x : AObj) : Nat → AObj := fun j => if j = i then x else o j

theorem upd_same (o : Nat → AObj) (i : Nat) (x : AObj) : upd o i x i = x := by simp [upd]
theorem upd_ne (o : Nat → AObj) {i j : Nat} (x : AObj) (h : j ≠ i) : upd o i x j = o j := by simp [upd, h]

/-- The tree t' is t with the values vs from place off on. -/
def TSet (t : Tr AV) (off : Nat) (vs : List AV) (t' : Tr AV) : Prop :=
  ∀ j, t'.get j = if off ≤ j ∧ j < off + vs.length then vs[j - off]? else t.get j

def TOf (cs : List AV) (t : Tr AV) : Prop := ∀ j, t.get j = cs[j]?

abbrev WL := List (Nat × AObj × Nat)

/-- How a plan goes: what it ends in, which objects it looks at, which it writes (with a bound of the references that are put in). -/
def EvF (s : Nat) : Plan → (Nat → AObj) → PRes → List Nat → WL → Prop
  | .ret v, _, r, R, W => r = .val v ∧ R = [] ∧ W = []
  | .skip, _, r, R, W => r = .skip ∧ R = [] ∧ W = []
  | .fail, _, _, _, _ => False
  | .chk b k, o, r, R, W => b = true ∧ EvF s k o r R W
  | .fL xs k, o, r, R, W => EvF s (k xs) o r R W
  | .get i k, o, r, R, W => ∃ R', R = i :: R' ∧ EvF s (k (o i)) o r R' W
  | .setcs i off vs k, o, r, R, W => ∃ R' W' t n ty t', R = i :: R' ∧ o i = .cells t n ty ∧ off + vs.length ≤ n ∧ TSet t off vs t' ∧
      W = (i, .cells t' n ty, bdl vs) :: W' ∧ EvF s k (upd o i (.cells t' n ty)) r R' W'
  | .seto i x rb k, o, r, R, W => ∃ R' W', R = i :: R' ∧ W = (i, x, rb) :: W' ∧ EvF s k (upd o i x) r R' W'
  | .newl cs ty k, o, r, R, W => ∃ W' t, TOf cs t ∧ W = (s, .cells t cs.length ty, bdl cs) :: W' ∧ EvF s (k s) (upd o s (.cells t cs.length ty)) r R W'
  | .newc n x ty k, o, r, R, W => ∃ W' t, (∀ j, t.get j = if j < n then some x else none) ∧ W = (s, .cells t n ty, bd x) :: W' ∧ EvF s (k s) (upd o s (.cells t n ty)) r R W'
  | .newo x k, o, r, R, W => ∃ W', W = (s, x, 0) :: W' ∧ EvF s (k s) (upd o s x) r R W'
  | .call f args, _, r, R, W => r = .call f args ∧ R = [] ∧ W = []
  | .yld l args, _, r, R, W => r = .yld l args ∧ R = [] ∧ W = []
  | .defr f args, _, r, R, W => r = .defr f args ∧ R = [] ∧ W = []
  | .recover, _, r, R, W => r = .recover ∧ R = [] ∧ W = []
  | .panic v, _, r, R, W => r = .panic v ∧ R = [] ∧ W = []

/-- A plan goes the same way over another heap that is the same where the plan looks. -/
theorem EvF.agree {s : Nat} : ∀ (p : Plan) (o o' : Nat → AObj) (r : PRes) (R : List Nat) (W : WL), EvF s p o r R W → (∀ i, i ∈ R → o' i = o i) → EvF s p o' r R W
  | .ret _, _, _, _, _, _, h, _ => h
  | .skip, _, _, _, _, _, h, _ => h
  | .fail, _, _, _, _, _, h, _ => h
  | .chk _ k, o, o', r, R, W, h, ha => ⟨h.1, EvF.agree k o o' r R W h.2 ha⟩
  | .fL xs k, o, o', r, R, W, h, ha => EvF.agree (k xs) o o' r R W h ha
  | .get i k, o, o', r, R, W, h, ha => by
    obtain ⟨R', e, h1⟩ := h
    subst e
    refine ⟨R', rfl, ?_⟩
    have e := ha i (by simp)
    rw [e]
    exact EvF.agree (k (o i)) o o' r R' W h1 fun j hj => ha j (by simp [hj])
  | .setcs i off vs k, o, o', r, R, W, h, ha => by
    obtain ⟨R', W', t, n, ty, t', e, h1, h2, h3, h4, h5⟩ := h
    subst e
    refine ⟨R', W', t, n, ty, t', rfl, (ha i (by simp)).trans h1, h2, h3, h4, EvF.agree k _ _ r R' W' h5 fun j hj => ?_⟩
    unfold upd; split
    · rfl
    · exact ha j (by simp [hj])
  | .seto i x rb k, o, o', r, R, W, h, ha => by
    obtain ⟨R', W', e, h1, h2⟩ := h
    subst e
    refine ⟨R', W', rfl, h1, EvF.agree k _ _ r R' W' h2 fun j hj => ?_⟩
    unfold upd; split
    · rfl
    · exact ha j (by simp [hj])
  | .newl cs ty k, o, o', r, R, W, h, ha => by
    obtain ⟨W', t, h1, h2, h3⟩ := h
    refine ⟨W', t, h1, h2, EvF.agree (k s) _ _ r R W' h3 fun j hj => ?_⟩
    unfold upd; split
    · rfl
    · exact ha j hj
  | .newc n x ty k, o, o', r, R, W, h, ha => by
    obtain ⟨W', t, h1, h2, h3⟩ := h
    refine ⟨W', t, h1, h2, EvF.agree (k s) _ _ r R W' h3 fun j hj => ?_⟩
    unfold upd; split
    · rfl
    · exact ha j hj
  | .newo x k, o, o', r, R, W, h, ha => by
    obtain ⟨W', h1, h2⟩ := h
    refine ⟨W', h1, EvF.agree (k s) _ _ r R W' h2 fun j hj => ?_⟩
    unfold upd; split
    · rfl
    · exact ha j hj
  | .call _ _, _, _, _, _, _, h, _ => h
  | .yld _ _, _, _, _, _, _, h, _ => h
  | .defr _ _, _, _, _, _, _, h, _ => h
  | .recover, _, _, _, _, _, h, _ => h
  | .panic _, _, _, _, _, _, h, _ => h

def AH.put (H : AH) (i : Nat) (x : AObj) (r : Nat) : AH :=
  { n := max H.n (i + 1), keep := if r ≤ i + 1 then H.keep else max H.keep r, o := upd H.o i x }

def AH.app (H : AH) : WL → AH
  | [] => H
  | (i, x, r) :: W => (H.put i x r).app W

theorem AH.put_keep (H : AH) (i : Nat) (x : AObj) (r : Nat) : H.keep ≤ (H.put i x r).keep := by
  show H.keep ≤ if r ≤ i + 1 then H.keep else max H.keep r
  split <;> omega
theorem AH.put_bd (H : AH) (i : Nat) (x : AObj) (r : Nat) : r ≤ max (i + 1) (H.put i x r).keep := by
  show r ≤ max (i + 1) (if r ≤ i + 1 then H.keep else max H.keep r)
  split <;> omega
theorem AH.put_L (H : AH) (i : Nat) {x : AObj} (r : Nat) (hx : x ≠ .hole) {j : Nat} (h : H.L j) : (H.put i x r).L j := by
  show upd H.o i x j ≠ .hole
  unfold upd; split
  · exact hx
  · exact h
theorem AH.put_L_same (H : AH) (i : Nat) {x : AObj} (r : Nat) (hx : x ≠ .hole) : (H.put i x r).L i := by
  show upd H.o i x i ≠ .hole
  rw [upd_same]; exact hx

theorem bd_le_bdl : ∀ (cs : List AV) (a : AV), a ∈ cs → bd a ≤ bdl cs
  | x :: xs, a, h => by
    rcases List.mem_cons.1 h with e | h
    · subst e; exact Nat.le_max_left _ _
    · exact Nat.le_trans (bd_le_bdl xs a h) (Nat.le_max_right _ _)

theorem Lives.mem {L : Nat → Prop} : ∀ (cs : List AV) (a : AV), Lives L cs → a ∈ cs → Live L a
  | x :: xs, a, h, hm => by
    rcases List.mem_cons.1 hm with e | hm
    · subst e; exact h.1
    · exact Lives.mem xs a h.2 hm

theorem VRels.length {g : Gh} {w : World} : ∀ {xs : List AV} {vs : List Value}, VRels g w xs vs → vs.length = xs.length
  | [], vs, h => by simp only [VRels] at h; simp [h]
  | x :: xs, vs, h => by
    simp only [VRels] at h
    obtain ⟨u, us, e, _, h2⟩ := h
    subst e
    simp [VRels.length h2]

theorem VRels.get {g : Gh} {w : World} : ∀ {xs : List AV} {vs : List Value}, VRels g w xs vs → ∀ (j : Nat) (a : AV), xs[j]? = some a → ∃ v, vs[j]? = some v ∧ VRel g w a v
  | [], _, _, j, a, ha => by simp at ha
  | x :: xs, vs, h, j, a, ha => by
    simp only [VRels] at h
    obtain ⟨u, us, e, h1, h2⟩ := h
    subst e
    cases j with
    | zero => simp at ha; subst ha; exact ⟨u, by simp, h1⟩
    | succ j => simp at ha; obtain ⟨v, h3, h4⟩ := VRels.get h2 j a ha; exact ⟨v, by simpa using h3, h4⟩

/-- A block that an object lies in. -/
def Owned (g : Gh) (H : AH) (k : Nat) : Prop := ∃ i, H.o i ≠ .hole ∧ g.bk (H.o i) i = k

/-- What comes of a step of the heap. -/
structure Out (g : Gh) (B : Nat) (w : World) (H : AH) (g' : Gh) (w' : World) (H' : AH) : Prop where
  rel : HRel g' B w' H'
  ext : Ext H.L g w g' w'
  below : RowKit.Below B w w'
  L : ∀ i, H.L i → H'.L i
  frame : ∀ k, k < w.heap.size → ¬ Owned g H k → w'.heap[k]? = w.heap[k]? ∧ g'.im k = g.im k
  own : ∀ k, Owned g' H' k → Owned g H k ∨ w.heap.size ≤ k

theorem Out.refl {g : Gh} {B : Nat} {w : World} {H : AH} (h : HRel g B w H) : Out g B w H g w H := ⟨h, Ext.refl _ _ _, RowKit.Below.refl _ _, fun _ h => h, fun _ _ _ => ⟨rfl, rfl⟩, fun _ h => .inl h⟩

theorem own_put {g g' : Gh} {H : AH} {i : Nat} {x : AObj} {r m : Nat} (h1 : ∀ j, j ≠ i → H.o j ≠ .hole → g'.bk (H.o j) j = g.bk (H.o j) j) (h2 : Owned g H (g'.bk x i) ∨ m ≤ g'.bk x i) :
    ∀ k, Owned g' (H.put i x r) k → Owned g H k ∨ m ≤ k := by
  rintro k ⟨j, hj, e⟩
  have ho : (H.put i x r).o j = if j = i then x else H.o j := rfl
  rw [ho] at hj e
  by_cases hji : j = i
  · subst hji
    rw [if_pos rfl] at e
    subst e
    exact h2
  · rw [if_neg hji] at hj e
    rw [h1 j hji hj] at e
    exact .inl ⟨j, hj, e⟩

theorem alloc_old {w : World} {co : Obj} {k : Nat} (h : k < w.heap.size) : (w.alloc co).heap[k]? = w.heap[k]? := by
  show (w.heap.push co)[_]? = _
  rw [Array.getElem?_push, if_neg (by omega)]

theorem Out.trans {g1 g2 g3 : Gh} {B : Nat} {w1 w2 w3 : World} {H1 H2 H3 : AH} (h : Out g1 B w1 H1 g2 w2 H2) (k : Out g2 B w2 H2 g3 w3 H3) : Out g1 B w1 H1 g3 w3 H3 :=
  ⟨k.rel, h.ext.trans (k.ext.mono h.L), h.below.trans k.below, fun i hi => k.L i (h.L i hi),
    fun b hb hn => by
      have hb2 : b < w2.heap.size := Nat.lt_of_lt_of_le hb h.below.size
      have hn2 : ¬ Owned g2 H2 b := fun ho => by
        rcases h.own b ho with e | e
        · exact hn e
        · omega
      obtain ⟨a1, a2⟩ := h.frame b hb hn
      obtain ⟨c1, c2⟩ := k.frame b hb2 hn2
      exact ⟨c1.trans a1, c2.trans a2⟩,
    fun b hb => by
      have := h.below.size
      rcases k.own b hb with e | e
      · exact h.own b e
      · exact .inr (by omega)⟩

theorem cell_alloc_lt {w : World} {o : Obj} {b j : Nat} (h : b < w.heap.size) : (w.alloc o).cell? ⟨b, j, none⟩ = w.cell? ⟨b, j, none⟩ :=
  World.cell?_alloc_lt w o ⟨b, j, none⟩ h

/-- A new block: an object that is no chain. -/
theorem HRel.newOb {g : Gh} {B : Nat} {w : World} {H : AH} (h : HRel g B w H) {s : Nat} (hs : H.o s = .hole) {x : AObj} (hxh : x ≠ .hole) (hxc : ∀ g i, Gh.bk g x i = g.ob i) (co : Obj) (r : Nat)
    (hrel : ∀ g', g'.ob s = w.heap.size → g'.im w.heap.size = 0 → (∀ i, H.L i → g'.ob i = g.ob i) → Ext H.L g w g' (w.alloc co) → ORel g' (w.alloc co) s x)
    (hlive : OLive (H.put s x r).L x) (hkp : OBd (max (s + 1) (H.put s x r).keep) x) :
    ∃ g', Out g B w H g' (w.alloc co) (H.put s x r) ∧ g'.ob s = w.heap.size := by
  let g' : Gh := { g with ob := fun i => if i = s then w.heap.size else g.ob i }
  have hne : ∀ i, H.L i → i ≠ s := fun i hi e => hi (e ▸ hs)
  have hob : ∀ i, H.L i → g'.ob i = g.ob i := fun i hi => if_neg (hne i hi)
  have hbl : ∀ b j, j < g.im b → b < w.heap.size := fun b j hj => by
    apply Nat.lt_of_not_le
    intro hb
    rw [h.imz b hb] at hj
    omega
  have hx : Ext H.L g w g' (w.alloc co) :=
    ⟨hob, fun _ _ => Nat.le_refl _, fun _ _ _ => ⟨rfl, rfl⟩, fun _ => Nat.le_refl _, fun b j hj => cell_alloc_lt (hbl b j hj)⟩
  have hsame : g'.ob s = w.heap.size := if_pos rfl
  have hbk : g'.bk x s = w.heap.size := by rw [hxc]; exact hsame
  refine ⟨g', ⟨HRel.upd h hx (fun j => rfl) hxh ?_ ?_ ?_ ?_ ?_ ?_ hlive hkp (AH.put_keep H s x r) ?_ ?_, hx, (RowKit.Below.refl B w).alloc h.hB co, fun i hi => AH.put_L H s r hxh hi,
    fun k hk _ => ⟨alloc_old hk, rfl⟩, own_put (fun j _ hj => hx.bk _ hj rfl) (.inr (by rw [hbk]; exact Nat.le_refl _))⟩, hsame⟩
  · intro j _ hj
    refine ⟨?_, rfl, rfl⟩
    have := (h.ge j hj).2
    show (w.heap.push co)[_]? = _
    rw [Array.getElem?_push, if_neg (by omega)]
  · simp
  · intro b hb
    refine h.imz b ?_
    simp at hb
    omega
  · rw [hbk]; exact ⟨h.hB, by simp⟩
  · intro j _ hj
    rw [hbk]
    have := (h.ge j hj).2
    omega
  · exact hrel g' hsame (h.imz _ (Nat.le_refl _)) hob hx
  · show H.n ≤ max H.n (s + 1)
    omega
  · show s < max H.n (s + 1)
    omega

theorem heap_alloc_new (w : World) (o : Obj) : (w.alloc o).heap[w.heap.size]? = some o := by
  show (w.heap.push o)[w.heap.size]? = some o
  simp

/-- A new block of cells. -/
theorem HRel.newCells {g : Gh} {B : Nat} {w : World} {H : AH} (h : HRel g B w H) {s : Nat} (hs : H.o s = .hole) {t : Tr AV} {cs : List AV} {vs : List Value} {ty : TypeId}
    (ht : TOf cs t) (hv : VRels g w cs vs) (hl : Lives H.L cs) :
    ∃ g', Out g B w H g' (w.alloc (.cells vs.toArray ty)) (H.put s (.cells t cs.length ty) (bdl cs)) ∧ g'.ob s = w.heap.size := by
  have hmem : ∀ j a, t.get j = some a → a ∈ cs := fun j a hj => by
    rw [ht] at hj
    exact List.mem_of_getElem? hj
  refine h.newOb hs (by simp) (fun _ _ => rfl) _ _ ?_ ?_ ?_
  · intro g' e1 e2 _ hx
    refine ⟨vs.toArray, by rw [e1]; exact heap_alloc_new _ _, by rw [e1]; exact e2, by simpa using hv.length, fun j hj => ?_⟩
    have h1 : cs[j]? = some cs[j] := List.getElem?_eq_getElem hj
    obtain ⟨v, h2, h3⟩ := hv.get j _ h1
    exact ⟨cs[j], v, by rw [ht]; exact h1, by simpa using h2, h3.ext hx _ _ (hl.mem _ _ (List.getElem_mem hj))⟩
  · intro j a hj
    exact (hl.mem _ _ (hmem j a hj)).mono fun i hi => AH.put_L H s _ (by simp) hi
  · intro j a hj
    exact Nat.le_trans (bd_le_bdl _ _ (hmem j a hj)) (AH.put_bd H s _ _)

/-- A new block of the same value everywhere. -/
theorem HRel.newCopies {g : Gh} {B : Nat} {w : World} {H : AH} (h : HRel g B w H) {s : Nat} (hs : H.o s = .hole) {t : Tr AV} {n : Nat} {x : AV} {arr : Array Value} {ty : TypeId}
    (ht : ∀ j, t.get j = if j < n then some x else none) (hn : arr.size = n) (hv : ∀ j, j < n → ∃ v, arr[j]? = some v ∧ VRel g w x v) (hl : Live H.L x) :
    ∃ g', Out g B w H g' (w.alloc (.cells arr ty)) (H.put s (.cells t n ty) (bd x)) ∧ g'.ob s = w.heap.size := by
  have hmem : ∀ j a, t.get j = some a → a = x := fun j a hj => by
    rw [ht] at hj
    split at hj
    · cases hj; rfl
    · cases hj
  refine h.newOb hs (by simp) (fun _ _ => rfl) _ _ ?_ ?_ ?_
  · intro g' e1 e2 _ hx
    refine ⟨arr, by rw [e1]; exact heap_alloc_new _ _, by rw [e1]; exact e2, hn, fun j hj => ?_⟩
    obtain ⟨v, h2, h3⟩ := hv j hj
    exact ⟨x, v, by rw [ht, if_pos hj], h2, h3.ext hx _ _ hl⟩
  · intro j a hj
    rw [hmem j a hj]
    exact hl.mono fun i hi => AH.put_L H s _ (by simp) hi
  · intro j a hj
    rw [hmem j a hj]
    exact AH.put_bd H s _ _

end
end Go.Abs
