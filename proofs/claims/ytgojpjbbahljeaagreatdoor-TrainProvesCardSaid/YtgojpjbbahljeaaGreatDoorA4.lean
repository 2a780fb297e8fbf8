/-
  More steps of the heap: cells stored, objects replaced, chains.
-/
import Derived.Test.YtgojpjbbahljeaaGreatDoorA3
/-! More steps of the heap: cells stored, objects replaced, chains. -/
namespace Go.Abs
open Go
noncomputable section

theorem LRel.of_get {g : Gh} {w : World} {b : Nat} : ∀ (xs : List AV) (off : Nat), (∀ (j : Nat) (a : AV), xs[j]? = some a → ∃ v, w.cell? ⟨b, off + j, none⟩ = some v ∧ VRel g w a v) → LRel g w xs b off
  | [], _, _ => trivial
  | x :: xs, off, h => by
    simp only [LRel]
    refine ⟨by simpa using h 0 x (by simp), LRel.of_get xs (off + 1) fun j a ha => ?_⟩
    have := h (j + 1) a (by simpa using ha)
    rwa [show off + (j + 1) = off + 1 + j by omega] at this

theorem LRel.get {g : Gh} {w : World} {b : Nat} : ∀ (xs : List AV) (off : Nat), LRel g w xs b off → ∀ j a, xs[j]? = some a → ∃ v, w.cell? ⟨b, off + j, none⟩ = some v ∧ VRel g w a v
  | [], _, _, j, a, ha => by simp at ha
  | x :: xs, off, h, j, a, ha => by
    simp only [LRel] at h
    cases j with
    | zero => simp at ha; subst ha; exact h.1
    | succ j =>
      simp at ha
      have := LRel.get xs (off + 1) h.2 j a ha
      rwa [show off + (j + 1) = off + 1 + j by omega]

theorem VRels.of_get {g : Gh} {w : World} : ∀ (xs : List AV) (vs : List Value), vs.length = xs.length → (∀ (j : Nat) (a : AV), xs[j]? = some a → ∃ v, vs[j]? = some v ∧ VRel g w a v) → VRels g w xs vs
  | [], vs, hl, _ => by simp only [VRels]; exact List.length_eq_zero_iff.1 hl
  | x :: xs, [], hl, _ => by simp at hl
  | x :: xs, v :: vs, hl, h => by
    simp only [VRels]
    obtain ⟨u, h1, h2⟩ := h 0 x (by simp)
    simp at h1
    subst h1
    exact ⟨v, vs, rfl, h2, VRels.of_get xs vs (by simpa using hl) fun j a ha => by simpa using h (j + 1) a (by simpa using ha)⟩

theorem HRel.lt {g : Gh} {B : Nat} {w : World} {H : AH} (h : HRel g B w H) {i : Nat} (hi : H.L i) : i < H.n := by
  apply Nat.lt_of_not_le
  intro hn
  exact hi (h.wf i hn)

theorem cell_of_block {w w' : World} {b j : Nat} (h : w'.heap[b]? = w.heap[b]?) : w'.cell? ⟨b, j, none⟩ = w.cell? ⟨b, j, none⟩ := by
  simp [World.cell?, h]

/-- An object's block is another one than it was. -/
theorem HRel.setOb {g : Gh} {B : Nat} {w : World} {H : AH} (h : HRel g B w H) {i : Nat} (hi : H.L i) (hic : g.bk (H.o i) i = g.ob i) (him : g.im (g.ob i) = 0)
    {x : AObj} (hxh : x ≠ .hole) (hxc : g.bk x i = g.ob i) (r : Nat) {w' : World} (hsz : w'.heap.size = w.heap.size) (hoth : ∀ k, k ≠ g.ob i → w'.heap[k]? = w.heap[k]?)
    (hos : w'.os = w.os) (hta : w'.tape = w.tape) (hou : w'.output = w.output)
    (hrel : Ext H.L g w g w' → ORel g w' i x) (hlive : OLive (H.put i x r).L x) (hkp : OBd (max (i + 1) (H.put i x r).keep) x) :
    Out g B w H g w' (H.put i x r) := by
  have hx : Ext H.L g w g w' :=
    ⟨fun _ _ => rfl, fun _ _ => Nat.le_refl _, fun _ _ _ => ⟨rfl, rfl⟩, fun _ => Nat.le_refl _, fun b j hj => cell_of_block (hoth b fun e => by subst e; omega)⟩
  have hge := h.ge i hi
  rw [hic] at hge
  refine ⟨HRel.upd h hx (fun j => rfl) hxh ?_ ?_ ?_ ?_ ?_ (hrel hx) hlive hkp (AH.put_keep H i x r) ?_ ?_, hx, ⟨hos, hta, hou, by omega, fun k hk => hoth k (by omega)⟩, fun j hj => AH.put_L H i r hxh hj,
    fun k _ hn => ⟨hoth k fun e => hn ⟨i, hi, by rw [hic, e]⟩, rfl⟩, own_put (fun j _ _ => rfl) (.inl ⟨i, hi, by rw [hic, hxc]⟩)⟩
  · intro j hj hjh
    refine ⟨hoth _ fun e => hj (h.inj j i hjh hi (by rw [e, hic])), rfl, rfl⟩
  · omega
  · intro b hb; exact h.imz b (by omega)
  · rw [hxc, hsz]; exact hge
  · intro j hj hjh e
    rw [hxc] at e
    exact hj (h.inj j i hjh hi (by rw [← e, hic]))
  · show H.n ≤ max H.n (i + 1)
    omega
  · show i < max H.n (i + 1)
    omega

theorem TrLive.set {L : Nat → Prop} {t t' : Tr AV} {off : Nat} {vs : List AV} (h : TrLive L t) (hv : Lives L vs) (ht : TSet t off vs t') : TrLive L t' := by
  intro j a hj
  rw [ht] at hj
  split at hj
  · exact hv.mem _ _ (List.mem_of_getElem? hj)
  · exact h j a hj

/-- Cells of an object are stored. -/
theorem HRel.setCells {g : Gh} {B : Nat} {w : World} {H : AH} (h : HRel g B w H) {i : Nat} {t t' : Tr AV} {n : Nat} {ty : TypeId} (hi : H.o i = .cells t n ty)
    {off : Nat} {vs : List AV} {cvs : List Value} (hn : off + vs.length ≤ n) (ht : TSet t off vs t') (hv : VRels g w vs cvs) (hl : Lives H.L vs) :
    ∃ arr, w.heap[g.ob i]? = some (.cells arr ty (0, 0)) ∧ arr.size = n ∧
      Out g B w H g (w.setRow (g.ob i) (arr.toList.take off ++ cvs ++ arr.toList.drop (off + cvs.length)).toArray) (H.put i (.cells t' n ty) (bdl vs)) := by
  have hLi : H.L i := by unfold AH.L; rw [hi]; simp
  have hr := h.rel i
  rw [hi] at hr
  obtain ⟨arr, h1, h2, h3, h4⟩ := hr
  have hlen := hv.length
  have hli := h.live i
  rw [hi] at hli
  have hkp := h.kp i
  rw [hi] at hkp
  have hsame := setRow_heap w (g.ob i) arr (arr.toList.take off ++ cvs ++ arr.toList.drop (off + cvs.length)).toArray ty (0, 0) h1
  refine ⟨arr, h1, h3, ?_⟩
  refine h.setOb hLi (by rw [hi]; rfl) h2 (by simp) rfl _ (setRow_size _ _ _) (fun k hk => setRow_other _ _ _ _ hk) rfl rfl rfl ?_ ?_ ?_
  · intro hx
    refine ⟨_, hsame, h2, ?_, fun j hj => ?_⟩
    · simp only [List.size_toArray, List.length_append, List.length_take, List.length_drop, Array.length_toList]
      omega
    · by_cases e : off ≤ j ∧ j < off + vs.length
      · have e1 : vs[j - off]? = some vs[j - off] := List.getElem?_eq_getElem (by omega)
        obtain ⟨v, e2, e3⟩ := hv.get _ _ e1
        refine ⟨_, v, by rw [ht, if_pos e]; exact e1, ?_, e3.ext hx _ _ (hl.mem _ _ (List.getElem_mem _))⟩
        have e4 : (List.take off arr.toList).length = off := by simp; omega
        rw [List.getElem?_toArray, List.append_assoc, List.getElem?_append_right (by omega), e4, List.getElem?_append_left (by omega)]
        exact e2
      · obtain ⟨a, v, e1, e2, e3⟩ := h4 j hj
        refine ⟨a, v, by rw [ht, if_neg e]; exact e1, ?_, e3.ext hx _ _ (hli j a e1)⟩
        rw [List.getElem?_toArray]
        by_cases e5 : j < off
        · rw [List.append_assoc, List.getElem?_append_left (by simp; omega), List.getElem?_take_of_lt e5]
          simpa using e2
        · have e6 : (List.take off arr.toList ++ cvs).length = off + cvs.length := by simp; omega
          rw [List.getElem?_append_right (by omega), e6, List.getElem?_drop]
          rw [show off + cvs.length + (j - (off + cvs.length)) = j by omega]
          simpa using e2
  · exact TrLive.set (fun j a hj => (hli j a hj).mono fun k hk => AH.put_L H i _ (by simp) hk) (hl.mono fun k hk => AH.put_L H i _ (by simp) hk) ht
  · intro j a hj
    rw [ht] at hj
    split at hj
    · exact Nat.le_trans (bd_le_bdl _ _ (List.mem_of_getElem? hj)) (AH.put_bd H i _ _)
    · have := AH.put_keep H i (.cells t' n ty) (bdl vs)
      exact Nat.le_trans (hkp j a hj) (by omega)

/-- A new chain. -/
theorem HRel.newChain {g : Gh} {B : Nat} {w : World} {H : AH} (h : HRel g B w H) {s : Nat} (hs : H.o s = .hole) {n cap sz : Nat} {ty : TypeId} {arr : Array Value}
    (ha : cap * sz = arr.size) (hn : n ≤ cap) :
    ∃ g', Out g B w H g' (w.alloc (.cells arr ty)) (H.put s (.chain n sz ty) 0) ∧ g'.cb s = w.heap.size ∧ g'.im w.heap.size = n * sz ∧ g'.cc s = cap ∧ g'.cn s = n := by
  let g' : Gh := { g with im := fun b => if b = w.heap.size then n * sz else g.im b, cn := fun i => if i = s then n else g.cn i,
                          cb := fun i => if i = s then w.heap.size else g.cb i, cc := fun i => if i = s then cap else g.cc i }
  have hne : ∀ i, H.L i → i ≠ s := fun i hi e => hi (e ▸ hs)
  have hbl : ∀ b j, j < g.im b → b < w.heap.size := fun b j hj => by
    apply Nat.lt_of_not_le
    intro hb
    rw [h.imz b hb] at hj
    omega
  have hcn : ∀ i, H.L i → g'.cn i = g.cn i := fun i hi => if_neg (hne i hi)
  have hx : Ext H.L g w g' (w.alloc (.cells arr ty)) := by
    refine ⟨fun _ _ => rfl, fun i hi => Nat.le_of_eq (hcn i hi).symm, fun i hi _ => ⟨if_neg (hne i hi), if_neg (hne i hi)⟩, fun b => ?_, fun b j hj => cell_alloc_lt (hbl b j hj)⟩
    show g.im b ≤ if b = w.heap.size then n * sz else g.im b
    split
    · rename_i e; rw [h.imz b (by omega)]; omega
    · omega
  have e1 : g'.cb s = w.heap.size := if_pos rfl
  have e2 : g'.im w.heap.size = n * sz := if_pos rfl
  have e3 : g'.cc s = cap := if_pos rfl
  have e4 : g'.cn s = n := if_pos rfl
  refine ⟨g', ⟨HRel.upd h hx (fun j => rfl) (by simp) ?_ ?_ ?_ ?_ ?_ ?_ trivial trivial (AH.put_keep H s _ _) ?_ ?_, hx, (RowKit.Below.refl B w).alloc h.hB _, fun i hi => AH.put_L H s _ (by simp) hi,
    fun k hk _ => ⟨alloc_old hk, if_neg (by omega)⟩, own_put (fun j _ hj => hx.bk _ hj (hcn j hj)) (.inr (Nat.le_of_eq e1.symm))⟩, e1, e2, e3, e4⟩
  · intro j _ hj
    have := (h.ge j hj).2
    refine ⟨?_, if_neg (by omega), hcn j hj⟩
    show (w.heap.push _)[_]? = _
    rw [Array.getElem?_push, if_neg (by omega)]
  · simp
  · intro b hb
    simp at hb
    show (if b = w.heap.size then n * sz else g.im b) = 0
    rw [if_neg (by omega)]
    exact h.imz b (by omega)
  · show B ≤ g'.cb s ∧ g'.cb s < _
    rw [e1]; exact ⟨h.hB, by simp⟩
  · intro j _ hj
    show g'.cb s ≠ _
    rw [e1]
    have := (h.ge j hj).2
    omega
  · exact ⟨arr, by rw [e1]; exact heap_alloc_new _ _, by rw [e1]; exact e2, by rw [e3]; exact hn, by rw [e3]; exact ha, e4⟩
  · show H.n ≤ max H.n (s + 1)
    omega
  · show s < max H.n (s + 1)
    omega

/-- A chain grows within its block. -/
theorem HRel.growChain {g : Gh} {B : Nat} {w : World} {H : AH} (h : HRel g B w H) {c : Nat} {n m sz : Nat} {ty : TypeId} (hc : H.o c = .chain n sz ty) (hm : n + m ≤ g.cc c)
    {arr arr' : Array Value} (ha : w.heap[g.cb c]? = some (.cells arr ty (0, 0))) (hs : arr'.size = arr.size) (hsame : ∀ j, j < n * sz → arr'[j]? = arr[j]?) :
    ∃ g', Out g B w H g' (w.setRow (g.cb c) arr') (H.put c (.chain (n + m) sz ty) 0) ∧ g'.cb c = g.cb c ∧ g'.im (g.cb c) = (n + m) * sz ∧ g'.cc c = g.cc c ∧ g'.cn c = n + m := by
  have hLc : H.L c := by unfold AH.L; rw [hc]; simp
  have hr := h.rel c
  rw [hc] at hr
  obtain ⟨arr0, h1, h2, h3, h4, h5⟩ := hr
  rw [ha] at h1
  injection h1 with h1
  injection h1 with h1
  subst h1
  let g' : Gh := { g with im := fun b => if b = g.cb c then (n + m) * sz else g.im b, cn := fun i => if i = c then n + m else g.cn i }
  have hcell : ∀ b j, j < g.im b → (w.setRow (g.cb c) arr').cell? ⟨b, j, none⟩ = w.cell? ⟨b, j, none⟩ := by
    intro b j hj
    by_cases e : b = g.cb c
    · subst e
      rw [h2] at hj
      rw [cell_setRow_same w (g.cb c) j arr arr' ty (0, 0) ha, hsame j hj]
      simp [World.cell?, ha]
    · exact cell_setRow_other _ _ _ _ e
  have hx : Ext H.L g w g' (w.setRow (g.cb c) arr') := by
    refine ⟨fun _ _ => rfl, fun i _ => ?_, fun i _ _ => ⟨rfl, rfl⟩, fun b => ?_, hcell⟩
    · show g.cn i ≤ if i = c then n + m else g.cn i
      split
      · rename_i e; subst e; omega
      · omega
    · show g.im b ≤ if b = g.cb c then (n + m) * sz else g.im b
      split
      · rename_i e; subst e; rw [h2]; exact Nat.mul_le_mul_right _ (by omega)
      · omega
  have e2 : g'.im (g.cb c) = (n + m) * sz := if_pos rfl
  have e4 : g'.cn c = n + m := if_pos rfl
  have hge := h.ge c hLc
  rw [hc] at hge
  simp only [Gh.bk] at hge
  refine ⟨g', ⟨HRel.upd h hx (fun j => rfl) (by simp) ?_ ?_ ?_ ?_ ?_ ?_ trivial trivial (AH.put_keep H c _ _) ?_ ?_, hx,
    below_setRow (RowKit.Below.refl B w) hge.1 _, fun i hi => AH.put_L H c _ (by simp) hi,
    fun k _ hn => by
      have hne : k ≠ g.cb c := fun e => hn ⟨c, hLc, by rw [hc]; exact e.symm⟩
      exact ⟨setRow_other _ _ _ _ hne, if_neg hne⟩,
    own_put (fun j hj hjh => hx.bk _ hjh (if_neg hj)) (.inl ⟨c, hLc, by rw [hc]; rfl⟩)⟩, rfl, e2, rfl, e4⟩
  · intro j hj hjh
    have hne : g.bk (H.o j) j ≠ g.cb c := fun e => hj (h.inj j c hjh hLc (by rw [e, hc]; rfl))
    exact ⟨setRow_other _ _ _ _ hne, if_neg hne, if_neg hj⟩
  · simp
  · intro b hb
    simp at hb
    show (if b = g.cb c then (n + m) * sz else g.im b) = 0
    rw [if_neg (by omega)]
    exact h.imz b hb
  · show B ≤ g.cb c ∧ g.cb c < _
    simpa using hge
  · intro j hj hjh e
    exact hj (h.inj j c hjh hLc (by rw [hc]; exact e.symm))
  · exact ⟨arr', setRow_heap w (g.cb c) arr arr' ty (0, 0) ha, e2, hm, by rw [hs]; exact h4, e4⟩
  · show H.n ≤ max H.n (c + 1)
    omega
  · show c < max H.n (c + 1)
    omega

/-- A chain moves into a new block. -/
theorem HRel.moveChain {g : Gh} {B : Nat} {w : World} {H : AH} (h : HRel g B w H) {c : Nat} {n m cap sz : Nat} {ty : TypeId} (hc : H.o c = .chain n sz ty) (hm : 0 < m)
    {arr : Array Value} (ha : cap * sz = arr.size) (hn : n + m ≤ cap) :
    ∃ g', Out g B w H g' (w.alloc (.cells arr ty)) (H.put c (.chain (n + m) sz ty) 0) ∧ g'.cb c = w.heap.size ∧ g'.im w.heap.size = (n + m) * sz ∧ g'.cc c = cap ∧ g'.cn c = n + m := by
  have hLc : H.L c := by unfold AH.L; rw [hc]; simp
  have hr := h.rel c
  rw [hc] at hr
  obtain ⟨arr0, h1, h2, h3, h4, h5⟩ := hr
  let g' : Gh := { g with im := fun b => if b = w.heap.size then (n + m) * sz else g.im b, cn := fun i => if i = c then n + m else g.cn i,
                          cb := fun i => if i = c then w.heap.size else g.cb i, cc := fun i => if i = c then cap else g.cc i }
  have hbl : ∀ b j, j < g.im b → b < w.heap.size := fun b j hj => by
    apply Nat.lt_of_not_le
    intro hb
    rw [h.imz b hb] at hj
    omega
  have hx : Ext H.L g w g' (w.alloc (.cells arr ty)) := by
    refine ⟨fun _ _ => rfl, fun i _ => ?_, fun i _ he => ?_, fun b => ?_, fun b j hj => cell_alloc_lt (hbl b j hj)⟩
    · show g.cn i ≤ if i = c then n + m else g.cn i
      split
      · rename_i e; subst e; omega
      · omega
    · have he' : (if i = c then n + m else g.cn i) = g.cn i := he
      by_cases e : i = c
      · subst e; rw [if_pos rfl] at he'; omega
      · exact ⟨if_neg e, if_neg e⟩
    · show g.im b ≤ if b = w.heap.size then (n + m) * sz else g.im b
      split
      · rename_i e; rw [h.imz b (by omega)]; omega
      · omega
  have e1 : g'.cb c = w.heap.size := if_pos rfl
  have e2 : g'.im w.heap.size = (n + m) * sz := if_pos rfl
  have e3 : g'.cc c = cap := if_pos rfl
  have e4 : g'.cn c = n + m := if_pos rfl
  refine ⟨g', ⟨HRel.upd h hx (fun j => rfl) (by simp) ?_ ?_ ?_ ?_ ?_ ?_ trivial trivial (AH.put_keep H c _ _) ?_ ?_, hx, (RowKit.Below.refl B w).alloc h.hB _, fun i hi => AH.put_L H c _ (by simp) hi,
    fun k hk _ => ⟨alloc_old hk, if_neg (by omega)⟩, own_put (fun j hj hjh => hx.bk _ hjh (if_neg hj)) (.inr (Nat.le_of_eq e1.symm))⟩, e1, e2, e3, e4⟩
  · intro j hj hjh
    have := (h.ge j hjh).2
    refine ⟨?_, if_neg (by omega), if_neg hj⟩
    show (w.heap.push _)[_]? = _
    rw [Array.getElem?_push, if_neg (by omega)]
  · simp
  · intro b hb
    simp at hb
    show (if b = w.heap.size then (n + m) * sz else g.im b) = 0
    rw [if_neg (by omega)]
    exact h.imz b (by omega)
  · show B ≤ g'.cb c ∧ g'.cb c < _
    rw [e1]; exact ⟨h.hB, by simp⟩
  · intro j hj hjh
    show g'.cb c ≠ _
    rw [e1]
    have := (h.ge j hjh).2
    omega
  · exact ⟨arr, by rw [e1]; exact heap_alloc_new _ _, by rw [e1]; exact e2, by rw [e3]; exact hn, by rw [e3]; exact ha, e4⟩
  · show H.n ≤ max H.n (c + 1)
    omega
  · show c < max H.n (c + 1)
    omega

/-- A draw. -/
theorem Out.drew {g : Gh} {B : Nat} {w : World} {H : AH} (h : HRel g B w H) : Out g B w H g w.drew H :=
  ⟨h.of_heap rfl, Ext.of_heap rfl, (RowKit.Below.refl B w).drew, fun _ h => h, fun _ _ _ => ⟨rfl, rfl⟩, fun _ h => .inl h⟩

end
end Go.Abs
