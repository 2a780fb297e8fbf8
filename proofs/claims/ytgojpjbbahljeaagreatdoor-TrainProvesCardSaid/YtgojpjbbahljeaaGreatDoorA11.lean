/-
  append.
-/
import Derived.Test.YtgojpjbbahljeaaGreatDoorA10
import Derived.Deep.Upon
/-! append. -/
namespace Go.Abs
open Go
noncomputable section

section
variable {P : Program} {T : Tr TypeInfo} {F : Tr Func} {g : Gh} {B : Nat} {w : World} {H : AH} {s : Nat} {ev : Operand → AV} {ρ : Operand → Value} {r : PRes} {R : List Nat} {W : WL}

/-- What is appended, or copied: the cells, and how many elements. -/
def pSrc (T : Tr TypeInfo) (tx : TypeId) (sz : Nat) (x : AV) (k : List AV → Nat → Plan) : Plan :=
  match tyU T tx with
  | some (.slice _) => match x with
    | .nils => k [] 0
    | .lst ys m _ => match takeN (m * sz) ys with
      | some l => .chk (allCells l) (k l m)
      | none => .fail
    | .slc o off m _ => .get o fun y => match y with
      | .cells tr n _ => .chk (decide (off + m * sz ≤ n)) (match loadN tr off (m * sz) with
        | some l => .chk (allCells l) (k l m)
        | none => .fail)
      | _ => .fail
    | _ => .fail
  | some .string => match x with
    | .str b => match sz with
      | 1 => k (b.map fun c => .int .u8 c.toNat) b.length
      | _ => .fail
    | _ => .fail
  | _ => .fail

theorem Lives.bytes (L : Nat → Prop) : ∀ b : List UInt8, Lives L (b.map fun c => AV.int .u8 c.toNat)
  | [] => trivial
  | _ :: b => ⟨trivial, Lives.bytes L b⟩

theorem VRels.bytes : ∀ b : List UInt8, VRels g w (b.map fun c => AV.int .u8 c.toNat) (b.map fun c => Value.int .u8 c.toNat)
  | [] => by simp [VRels]
  | c :: b => by
    simp only [List.map_cons, VRels]
    exact ⟨_, _, rfl, by simp [VRel], VRels.bytes b⟩

theorem pSrc_ok (c : OCtx P T F g B w H s ev ρ) {tx : TypeId} {sz : Nat} {x : Operand} {k : List AV → Nat → Plan} (h : EvF s (pSrc T tx sz (ev x) k) H.o r R W) :
    ∃ ys m news R', EvF s (k ys m) H.o r R' W ∧ Src P sz tx (ρ x) m news w ∧ VRels g w ys news ∧ Lives H.L ys := by
  have hx := c.rel x
  have hl := c.live x
  unfold pSrc at h
  split at h
  · rename_i e hu
    have hu' := tyU_ok c.T hu
    split at h
    · rename_i ex
      rw [ex] at hx
      simp only [VRel] at hx
      rw [hx]
      exact ⟨[], 0, [], R, h, Src.ofNil w hu' 0, by simp [VRels], trivial⟩
    · rename_i ys m own ex
      rw [ex] at hx hl
      simp only [VRel] at hx
      obtain ⟨b, off, cap, e1, h1, h2, h3, h4⟩ := hx
      split at h <;> try exact h.elim
      rename_i l hln
      obtain ⟨hc, h⟩ := h
      obtain ⟨k1, k2⟩ := takeN_eq hln
      obtain ⟨cs, f1, f2, f3⟩ := h3.piece (off := 0) (by simpa using k1) k2
      rw [e1]
      refine ⟨l, m, cs, R, h, Src.ofSlice w hu' _ m cap cs f1 (by simpa using f2) (allCells_ok hc f3), f3, ?_⟩
      rw [k1]; exact Lives.take hl.1 _
    · rename_i o off m cap ex
      rw [ex] at hx
      simp only [VRel] at hx
      obtain ⟨R', _, h⟩ := h
      simp only at h
      split at h <;> try exact h.elim
      rename_i tr n ty ho
      obtain ⟨hb, h⟩ := h
      have hb := of_decide_eq_true hb
      split at h <;> try exact h.elim
      rename_i l hln
      obtain ⟨hc, h⟩ := h
      obtain ⟨k1, k2⟩ := loadN_ok hln
      obtain ⟨cs, f1, f2, f3, f4⟩ := c.h.cellsAt ho hb k1 k2
      rw [hx]
      exact ⟨l, m, cs, R', h, Src.ofSlice w hu' _ m cap cs f1 f2 (allCells_ok hc f3), f3, f4⟩
    · exact h.elim
  · rename_i hu
    have hu' := tyU_ok c.T hu
    split at h <;> try exact h.elim
    rename_i b ex
    rw [ex] at hx
    simp only [VRel] at hx
    split at h <;> try exact h.elim
    rw [hx]
    refine ⟨_, _, _, R, h, ?_, VRels.bytes b, Lives.bytes _ b⟩
    have := Src.ofString (P := P) w hu' ⟨b.toArray⟩
    have es : (⟨b.toArray⟩ : ByteArray).size = b.length := rfl
    rw [es] at this
    simpa [byteCells] using this
  · exact h.elim

theorem run_append_row (w : World) (t tx ty e : TypeId) (i : TypeInfo) (ht : P.underlying t = some (.slice e)) (hi : P.info? e = some i) (b sLen sCap : Nat) (x : Value) (n : Nat) (news : List Value)
    (hs : Src P i.size tx x n news w) (cur : Array Value) (hg : w.heap[b]? = some (.cells cur e (0, 0)))
    (hroom : sLen + n ≤ sCap) (hfit : sLen * i.size + news.length ≤ cur.size) :
    (Builtin.append_ #[t, tx] ty #[.slice (some ⟨b, 0, none⟩) sLen sCap, x]).run P w = .ok (.slice (some ⟨b, 0, none⟩) (sLen + n) sCap)
      (w.setRow b (cur.toList.take (sLen * i.size) ++ news ++ cur.toList.drop (sLen * i.size + news.length)).toArray) := by
  have hst := run_storeCells_at P b (sLen * i.size) e news 0 cur w hg (by simpa using hfit) hs.one
  simp only [Nat.add_zero] at hst
  rcases hs.kind with ⟨e', hk⟩ | hk <;> simp [Builtin.append_, run_underlying ht, run_underlying hk, sizeOf, typeInfo, hi, hs.len, hroom, hs.cells, Addr.add_lit, hst]

theorem le_grownCap (w : World) (need old : Nat) (e : TypeId) : need ≤ grownCap w need old e := by
  simp only [grownCap, Question.cut]; omega

/-- The new row of an append: n elements that are known, some spare ones. -/
theorem newRow_chain (h : HRel g B w H) (hs : H.o s = .hole) {n cap sz : Nat} {e : TypeId} {zs : List AV} {news : List Value} {rest : Array Value} (hz : VRels g w zs news) (hl : Lives H.L zs)
    (hn : news.length = n * sz) (hc : n ≤ cap) (hr : rest.size = (cap - n) * sz) :
    ∃ g', Out g B w H g' (w.drew.alloc (.cells (news.toArray ++ rest) e)) (H.put s (.chain n sz e) 0) ∧
      VRel g' (w.drew.alloc (.cells (news.toArray ++ rest) e)) (.lst zs n (.ch s)) (.slice (some ⟨w.heap.size, 0, none⟩) n cap) ∧ Live (H.put s (.chain n sz e) 0).L (.lst zs n (.ch s)) := by
  have h1 := Out.drew h
  have hsz : cap * sz = (news.toArray ++ rest).size := by
    simp only [Array.size_append, List.size_toArray, hn, hr, ← Nat.add_mul]
    congr 1
    omega
  obtain ⟨g', e1, e2, e3, e4, e5⟩ := h1.rel.newChain hs (arr := news.toArray ++ rest) (ty := e) (cap := cap) (sz := sz) hsz hc
  have hlen := hz.length
  refine ⟨g', h1.trans e1, ?_, ⟨hl.mono fun i hi => AH.put_L H s 0 (by simp) hi, fun c hcc => ?_⟩⟩
  · simp only [VRel]
    refine ⟨w.heap.size, 0, cap, rfl, hc, ?_, ?_, ?_⟩
    · have e3' : g'.im w.heap.size = n * sz := e3
      rw [e3']
      omega
    · refine LRel.of_get _ _ fun j a ha => ?_
      obtain ⟨v, f1, f2⟩ := hz.get _ _ ha
      refine ⟨v, ?_, f2.ext (h1.trans e1).ext _ _ (hl.mem _ _ (List.mem_of_getElem? ha))⟩
      have := World.cell?_alloc_new w.drew (news.toArray ++ rest) e (0 + j)
      have e6 : w.drew.heap.size = w.heap.size := rfl
      rw [e6] at this
      rw [this, Nat.zero_add]
      have hj : j < news.length := by
        rw [List.getElem?_eq_some_iff] at f1
        exact f1.1
      rw [Array.getElem?_append_left (by simpa using hj)]
      simpa using f1
    · have e5' : g'.cn s = n := e5
      have e2' : g'.cb s = w.heap.size := e2
      have e4' : g'.cc s = cap := e4
      exact ⟨by omega, fun _ => ⟨e2'.symm, rfl, e4'.symm⟩⟩
  · cases hcc
    exact AH.put_L_same H s 0 (by simp)

def roomOk : Nat := 140737488355328

def pAppend (T : Tr TypeInfo) (t tx : TypeId) (d x : AV) : Plan :=
  match tyU T t with
  | some (.slice e) => match T.get e with
    | some i => match i.zero with
      | some z => .chk (lenIs (ofVs z.cells.toList) i.size) (pSrc T tx i.size x fun ys m => match m with
        | 0 => match d with
          | .nils => .ret .nils
          | .lst xs n own => .ret (.lst xs n own)
          | _ => .fail
        | m + 1 => match d with
          | .nils => .chk (decide ((m + 1) * i.bytes ≤ roomOk)) (.chk (decide (m + 1 ≤ strLe)) (.fL ys fun zs =>
              .newo (.chain (m + 1) i.size e) fun c => .ret (.lst zs (m + 1) (.ch c))))
          | .lst xs n own => .chk (decide ((n + (m + 1)) * i.bytes ≤ roomOk)) (.chk (decide (n + (m + 1) ≤ strLe)) (.chk (lenIs xs (n * i.size)) (.fL (xs ++ ys) fun zs =>
              match own with
              | .full => .newo (.chain (n + (m + 1)) i.size e) fun c => .ret (.lst zs (n + (m + 1)) (.ch c))
              | .ch c => .get c fun y => match y with
                | .chain n' sz' e' => .chk (decide (n' = n)) (.chk (decide (sz' = i.size)) (.chk (decide (e' = e))
                    (.seto c (.chain (n + (m + 1)) i.size e) 0 (.ret (.lst zs (n + (m + 1)) (.ch c))))))
                | _ => .fail
              | .no => .fail)))
          | _ => .fail)
      | none => .fail
    | none => .fail
  | _ => .fail

theorem VRels.append : ∀ {xs ys : List AV} {us vs : List Value}, VRels g w xs us → VRels g w ys vs → VRels g w (xs ++ ys) (us ++ vs)
  | [], _, _, _, h, k => by simp only [VRels] at h; subst h; simpa using k
  | _ :: _, ys, us, vs, h, k => by
    obtain ⟨u, us', e, h1, h2⟩ := h
    subst e
    simp only [List.cons_append, VRels]
    exact ⟨_, _, rfl, h1, VRels.append h2 k⟩

theorem Lives.append {L : Nat → Prop} : ∀ {xs ys : List AV}, Lives L xs → Lives L ys → Lives L (xs ++ ys)
  | [], _, _, k => k
  | _ :: _, _, h, k => ⟨h.1, Lives.append h.2 k⟩

theorem zeroCells_size (z : Array Value) (n : Nat) : (Builtin.zeroCells z n).size = n * z.size := by simp [Builtin.zeroCells]

theorem pAppend_ok (c : OCtx P T F g B w H s ev ρ) {t tx ty : TypeId} {d x : Operand} (h : EvF s (pAppend T t tx (ev d) (ev x)) H.o r R W) :
    OpRes g B w H W ((do let v ← Builtin.append_ #[t, tx] ty #[ρ d, ρ x]; pure (.value v) : Sem Next).run P w) r := by
  have hd := c.rel d
  have hld := c.live d
  unfold pAppend at h
  split at h <;> try exact h.elim
  rename_i e hu
  have hu' := tyU_ok c.T hu
  split at h <;> try exact h.elim
  rename_i i hi
  have hi' := c.T e i hi
  split at h <;> try exact h.elim
  rename_i z hz
  obtain ⟨hzl, h⟩ := h
  have hzl := lenIs_ok hzl
  have hzs : z.cells.size = i.size := by
    have := (ofVs_rel g w z.cells.toList).length
    rw [← Array.length_toList, this, hzl]
  have hq := pSrc_ok c h
  clear h
  obtain ⟨ys, m, news, R', h, hsrc, hys, hlys⟩ := hq
  have hnl := hsrc.newsLen
  have hnl2 := hys.length
  split at h
  · -- nothing is appended
    have hnil : news = [] := by
      apply List.length_eq_zero_iff.1
      rw [hnl]; simp
    subst hnil
    split at h
    · rename_i ed
      rw [ed] at hd
      simp only [VRel] at hd
      obtain ⟨rfl, rfl⟩ := evF_ret h
      have := run_append_nothing w t tx ty e i hu' hi' none 0 0 (Nat.le_refl _) (ρ x) hsrc
      exact OpRes.pure c.h (u := .slice none 0 0) (by simp [hd, this]) (by simp [VRel]) trivial
    · rename_i xs n own ed
      rw [ed] at hd hld
      have hd0 := hd
      simp only [VRel] at hd
      obtain ⟨b, off, cap, e1, h1, h2, h3, h4⟩ := hd
      obtain ⟨rfl, rfl⟩ := evF_ret h
      have := run_append_nothing w t tx ty e i hu' hi' (some ⟨b, off, none⟩) n cap h1 (ρ x) hsrc
      rw [e1] at hd0
      exact OpRes.pure c.h (u := .slice (some ⟨b, off, none⟩) n cap) (by simp [e1, this]) hd0 hld
    · exact h.elim
  · rename_i m
    split at h
    · -- onto nil
      rename_i ed
      rw [ed] at hd
      simp only [VRel] at hd
      obtain ⟨hb1, hb2, W', rfl, h⟩ := h
      obtain ⟨rfl, rfl⟩ := evF_ret h
      have hb1 := of_decide_eq_true hb1
      have hb2 := of_decide_eq_true hb2
      unfold roomOk at hb1
      unfold strLe at hb2
      have hrun := run_append_grow_src w t tx ty e i z hu' hi' hz none 0 0 [] (run_firstCells_none w.drew i.size 0 0 0) (ρ x) (m + 1) news hsrc (by omega) (by omega) (growslice_fits (by omega) (by simpa using hb1))
      obtain ⟨g', f1, f2, f3⟩ := newRow_chain (e := e) c.h c.s hys hlys hnl (le_grownCap w (m + 1) 0 e) (rest := Builtin.zeroCells z.cells (grownCap w (m + 1) 0 e - (m + 1))) (by rw [zeroCells_size, hzs])
      refine ⟨_, g', _, ?_, f1, f2, f3⟩
      simp only [Nat.zero_add, List.nil_append] at hrun
      simp [hd, hrun]
    · -- onto a list
      rename_i xs n own ed
      rw [ed] at hd hld
      simp only [VRel] at hd
      obtain ⟨b, off, cap, e1, h1, h2, h3, h4⟩ := hd
      obtain ⟨hb1, hb2, hb3, h⟩ := h
      have hb1 := of_decide_eq_true hb1
      have hb2 := of_decide_eq_true hb2
      have hb3 := lenIs_ok hb3
      unfold roomOk at hb1
      unfold strLe at hb2
      obtain ⟨olds, k1, k2, k3⟩ := h3.piece (off := 0) (k := n * i.size) (l := xs) (by simp [← hb3]) hb3
      have hold := run_firstCells_some (P := P) w.drew i.size n ⟨b, off, none⟩ n cap olds k1 (by simpa using k2)
      have hzz := k3.append hys
      have hll := Lives.append hld.1 hlys
      have hgrow := fun (hc : cap < n + (m + 1)) => run_append_grow_src w t tx ty e i z hu' hi' hz (some ⟨b, off, none⟩) n cap olds hold (ρ x) (m + 1) news hsrc hc (by omega) (growslice_fits hc hb1)
      have hnn : (olds ++ news).length = (n + (m + 1)) * i.size := by rw [List.length_append, k1, hnl, Nat.add_mul]
      split at h
      · -- full
        obtain ⟨W', rfl, h⟩ := h
        obtain ⟨rfl, rfl⟩ := evF_ret h
        have h4 : cap = n := h4
        subst h4
        obtain ⟨g', f1, f2, f3⟩ := newRow_chain (e := e) c.h c.s hzz hll hnn (le_grownCap w (cap + (m + 1)) cap e) (rest := Builtin.zeroCells z.cells (grownCap w (cap + (m + 1)) cap e - (cap + (m + 1)))) (by rw [zeroCells_size, hzs])
        refine ⟨_, g', _, ?_, f1, f2, f3⟩
        simp [e1, hgrow (by omega)]
      · -- a chain
        rename_i cc
        obtain ⟨R'', _, h⟩ := h
        simp only at h
        split at h <;> try exact h.elim
        rename_i n' sz' e' ho
        obtain ⟨g1, g2, g3, R3, W', _, rfl, h⟩ := h
        obtain ⟨rfl, _, rfl⟩ := h
        have g1 := of_decide_eq_true g1
        have g2 := of_decide_eq_true g2
        have g3 := of_decide_eq_true g3
        subst g1; subst g2; subst g3
        have hrc := c.h.rel cc
        rw [ho] at hrc
        obtain ⟨arr, q1, q2, q3, q4, q5⟩ := hrc
        obtain ⟨o1, o2⟩ := h4
        obtain ⟨o3, o4, o5⟩ := o2 q5.symm
        subst o3; subst o4; subst o5
        by_cases hroom : n' + (m + 1) ≤ g.cc cc
        · -- in place
          have hfit : n' * i.size + news.length ≤ arr.size := by
            rw [hnl, ← q4, ← Nat.add_mul]
            exact Nat.mul_le_mul_right _ hroom
          have hrun := run_append_row w t tx ty e' i hu' hi' (g.cb cc) n' (g.cc cc) (ρ x) (m + 1) news hsrc arr q1 hroom hfit
          generalize harr : (arr.toList.take (n' * i.size) ++ news ++ arr.toList.drop (n' * i.size + news.length)).toArray = arr' at hrun
          have hsz : arr'.size = arr.size := by
            rw [← harr]
            simp only [List.size_toArray, List.length_append, List.length_take, List.length_drop, Array.length_toList]
            omega
          have hpre : ∀ j, j < n' * i.size → arr'[j]? = arr[j]? := fun j hj => by
            rw [← harr, List.getElem?_toArray, List.append_assoc, List.getElem?_append_left (by simp; omega), List.getElem?_take_of_lt hj]
            simp
          have hnew : ∀ j, j < news.length → arr'[n' * i.size + j]? = news[j]? := fun j hj => by
            have e4 : (List.take (n' * i.size) arr.toList).length = n' * i.size := by simp; omega
            rw [← harr, List.getElem?_toArray, List.append_assoc, List.getElem?_append_right (by omega), e4, List.getElem?_append_left (by omega)]
            congr 1
            omega
          obtain ⟨g', f1, f2, f3, f4, f5⟩ := c.h.growChain ho hroom q1 hsz hpre
          refine ⟨.slice (some ⟨g.cb cc, 0, none⟩) (n' + (m + 1)) (g.cc cc), g', _, by simp [e1, hrun], f1, ?_, hll.mono fun k hk => f1.L k hk, fun c' hc' => by cases hc'; exact f1.L _ (hld.2 _ rfl)⟩
          simp only [VRel]
          refine ⟨g.cb cc, 0, g.cc cc, rfl, by omega, ?_, ?_, ?_⟩
          · rw [f3, List.length_append, Nat.zero_add, hb3, ← hnl2, hnl, Nat.add_mul]; exact Nat.le_refl _
          · refine LRel.of_get _ _ fun j a ha => ?_
            have hcell := fun j => cell_setRow_same w (g.cb cc) j arr arr' e' (0, 0) q1
            rw [Nat.zero_add, hcell]
            by_cases hj : j < xs.length
            · rw [List.getElem?_append_left hj] at ha
              obtain ⟨v, v1, v2⟩ := h3.get xs 0 j a ha
              refine ⟨v, ?_, v2.ext f1.ext _ _ (hld.1.mem _ _ (List.mem_of_getElem? ha))⟩
              rw [hpre j (by omega)]
              simpa [World.cell?, q1] using v1
            · rw [List.getElem?_append_right (by omega)] at ha
              obtain ⟨v, v1, v2⟩ := hys.get _ _ ha
              refine ⟨v, ?_, v2.ext f1.ext _ _ (hlys.mem _ _ (List.mem_of_getElem? ha))⟩
              have hj2 : j - xs.length < news.length := (List.getElem?_eq_some_iff.1 v1).1
              have := hnew (j - xs.length) hj2
              rw [show n' * i.size + (j - xs.length) = j by omega] at this
              rw [this]; exact v1
          · exact ⟨by omega, fun _ => ⟨f2.symm, rfl, f4.symm⟩⟩
        · -- a new block
          have h1' := Out.drew c.h
          have hrest : (Builtin.zeroCells z.cells (grownCap w (n' + (m + 1)) (g.cc cc) e' - (n' + (m + 1)))).size = (grownCap w (n' + (m + 1)) (g.cc cc) e' - (n' + (m + 1))) * i.size := by rw [zeroCells_size, hzs]
          have hcap := le_grownCap w (n' + (m + 1)) (g.cc cc) e'
          generalize Builtin.zeroCells z.cells (grownCap w (n' + (m + 1)) (g.cc cc) e' - (n' + (m + 1))) = rest at *
          have hrun := hgrow (by omega)
          generalize grownCap w (n' + (m + 1)) (g.cc cc) e' = ncap at *
          have hsz : ncap * i.size = ((olds ++ news).toArray ++ rest).size := by
            simp only [Array.size_append, List.size_toArray, hnn, hrest, ← Nat.add_mul]
            congr 1
            omega
          obtain ⟨g', f1, f2, f3, f4, f5⟩ := h1'.rel.moveChain (m := m + 1) ho (by omega) (arr := (olds ++ news).toArray ++ rest) (cap := ncap) hsz hcap
          have f1' := h1'.trans f1
          refine ⟨.slice (some ⟨w.heap.size, 0, none⟩) (n' + (m + 1)) ncap, g', _, by simp [e1, hrun], f1', ?_, hll.mono fun k hk => f1'.L k hk, fun c' hc' => by cases hc'; exact f1'.L _ (hld.2 _ rfl)⟩
          simp only [VRel]
          have f2' : g'.cb cc = w.heap.size := f2
          have f3' : g'.im w.heap.size = (n' + (m + 1)) * i.size := f3
          refine ⟨w.heap.size, 0, ncap, rfl, hcap, ?_, ?_, ?_⟩
          · rw [f3', List.length_append, Nat.zero_add, hb3, ← hnl2, hnl, Nat.add_mul]; exact Nat.le_refl _
          · refine LRel.of_get _ _ fun j a ha => ?_
            obtain ⟨v, v1, v2⟩ := hzz.get _ _ ha
            refine ⟨v, ?_, v2.ext f1'.ext _ _ (hll.mem _ _ (List.mem_of_getElem? ha))⟩
            have := World.cell?_alloc_new w.drew ((olds ++ news).toArray ++ rest) e' (0 + j)
            have e6 : w.drew.heap.size = w.heap.size := rfl
            rw [e6] at this
            rw [this, Nat.zero_add]
            have hj : j < (olds ++ news).length := (List.getElem?_eq_some_iff.1 v1).1
            rw [Array.getElem?_append_left (by simpa using hj)]
            simpa using v1
          · exact ⟨by omega, fun _ => ⟨f2'.symm, rfl, f4.symm⟩⟩
      · exact h.elim
    · exact h.elim

end
end
end Go.Abs
