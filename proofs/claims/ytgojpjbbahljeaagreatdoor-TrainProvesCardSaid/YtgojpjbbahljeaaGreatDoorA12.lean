/-
  Literals, make, copy, strings walked.
-/
import Derived.Test.YtgojpjbbahljeaaGreatDoorA11
import Derived.Great.BuildSlice
/-! Literals, make, copy, strings walked. -/
namespace Go.Abs
open Go
noncomputable section

section
variable {P : Program} {T : Tr TypeInfo} {F : Tr Func} {g : Gh} {B : Nat} {w : World} {H : AH} {s : Nat} {ev : Operand → AV} {ρ : Operand → Value} {r : PRes} {R : List Nat} {W : WL}

def putN : List AV → Nat → List AV → List AV
  | [], _, _ => []
  | x :: xs, n, cs => match n with
    | 0 => match cs with
      | [] => x :: xs
      | c :: cs => c :: putN xs 0 cs
    | n + 1 => x :: putN xs n cs

theorem putN_len : ∀ (xs : List AV) (n : Nat) (cs : List AV), (putN xs n cs).length = xs.length
  | [], _, _ => rfl
  | x :: xs, 0, [] => rfl
  | x :: xs, 0, c :: cs => by simp [putN, putN_len xs 0 cs]
  | x :: xs, n + 1, cs => by simp [putN, putN_len xs n cs]

theorem putN_get : ∀ (xs : List AV) (n : Nat) (cs : List AV) (j : Nat), j < xs.length → (putN xs n cs)[j]? = if n ≤ j ∧ j < n + cs.length then cs[j - n]? else xs[j]?
  | [], _, _, j, h => by simp at h
  | x :: xs, 0, [], j, h => by
    simp only [putN]
    rw [if_neg (by simp)]
  | x :: xs, 0, c :: cs, 0, h => by simp [putN]
  | x :: xs, 0, c :: cs, j + 1, h => by
    have := putN_get xs 0 cs j (by simpa using h)
    simp only [putN, List.getElem?_cons_succ, this, Nat.zero_le, true_and, Nat.zero_add, Nat.sub_zero, List.length_cons]
    by_cases e : j < cs.length
    · rw [if_pos e, if_pos (by omega)]
    · rw [if_neg e, if_neg (by omega)]
  | x :: xs, n + 1, cs, 0, h => by simp [putN]
  | x :: xs, n + 1, cs, j + 1, h => by
    have := putN_get xs n cs j (by simpa using h)
    simp only [putN, List.getElem?_cons_succ, this]
    by_cases e : n ≤ j ∧ j < n + cs.length
    · rw [if_pos e, if_pos (by omega), show j + 1 - (n + 1) = j - n by omega]
    · rw [if_neg e, if_neg (by omega)]

theorem putN_mem : ∀ (xs : List AV) (n : Nat) (cs : List AV) (a : AV), a ∈ putN xs n cs → a ∈ xs ∨ a ∈ cs
  | [], _, _, a, h => by simp [putN] at h
  | x :: xs, 0, [], a, h => .inl h
  | x :: xs, 0, c :: cs, a, h => by
    simp only [putN, List.mem_cons] at h ⊢
    rcases h with h | h
    · exact .inr (.inl h)
    · rcases putN_mem xs 0 cs a h with h | h
      · exact .inl (.inr h)
      · exact .inr (.inr h)
  | x :: xs, n + 1, cs, a, h => by
    simp only [putN, List.mem_cons] at h ⊢
    rcases h with h | h
    · exact .inl (.inl h)
    · rcases putN_mem xs n cs a h with h | h
      · exact .inl (.inr h)
      · exact .inr h

theorem Lives.of_mem {L : Nat → Prop} : ∀ (xs : List AV), (∀ a, a ∈ xs → Live L a) → Lives L xs
  | [], _ => trivial
  | x :: xs, h => ⟨h x (by simp), Lives.of_mem xs fun a ha => h a (by simp [ha])⟩

def foldSet (off : Nat) (cs : Array Value) (l : List (Value × Nat)) : Array Value := l.foldl (fun cs x => cs.setIfInBounds (off + x.2) x.1) cs

theorem foldSet_spec (off : Nat) : ∀ (l : List Value) (k : Nat) (cs : Array Value), (foldSet off cs (l.zipIdx k)).size = cs.size ∧
    ∀ j, j < cs.size → (foldSet off cs (l.zipIdx k))[j]? = if off + k ≤ j ∧ j < off + k + l.length then l[j - (off + k)]? else cs[j]?
  | [], k, cs => by
    refine ⟨rfl, fun j hj => ?_⟩
    rw [if_neg (by simp)]
    rfl
  | v :: l, k, cs => by
    obtain ⟨h1, h2⟩ := foldSet_spec off l (k + 1) (cs.setIfInBounds (off + k) v)
    have e : foldSet off cs ((v :: l).zipIdx k) = foldSet off (cs.setIfInBounds (off + k) v) (l.zipIdx (k + 1)) := by
      simp [foldSet, List.zipIdx_cons]
    rw [e]
    refine ⟨by rw [h1]; simp, fun j hj => ?_⟩
    rw [h2 j (by simpa using hj)]
    by_cases e1 : j = off + k
    · subst e1
      rw [if_neg (by omega), if_pos (by simp)]
      simp [hj]
    · by_cases e2 : off + (k + 1) ≤ j ∧ j < off + (k + 1) + l.length
      · rw [if_pos e2, if_pos (by simp; omega), show j - (off + k) = j - (off + (k + 1)) + 1 by omega]
        simp
      · rw [if_neg e2, if_neg (by simp; omega)]
        rw [Array.getElem?_setIfInBounds_ne (by omega)]

theorem VRels.put {cells cs : List AV} {arr : Array Value} {v : Array Value} {off : Nat} (h : VRels g w cells arr.toList) (hc : VRels g w cs v.toList) :
    VRels g w (putN cells off cs) (foldSet off arr (v.toList.zipIdx 0)).toList := by
  have hl := h.length
  have hcl := hc.length
  obtain ⟨h1, h2⟩ := foldSet_spec off v.toList 0 arr
  have hsz : arr.size = cells.length := by rw [← hl]; simp
  refine VRels.of_get _ _ (by rw [putN_len, Array.length_toList, h1, hsz]) fun j a ha => ?_
  have hj : j < cells.length := by
    have := (List.getElem?_eq_some_iff.1 ha).1
    rwa [putN_len] at this
  rw [putN_get _ _ _ _ hj] at ha
  rw [Array.getElem?_toList, h2 j (by omega)]
  simp only [Nat.add_zero, hcl]
  split at ha
  · rename_i e
    rw [if_pos e]
    exact hc.get _ _ ha
  · rename_i e
    rw [if_neg e]
    obtain ⟨u, h3, h4⟩ := h.get _ _ ha
    exact ⟨u, by simpa using h3, h4⟩

def fillA (place : Nat → Option (Nat × Nat)) (cells : List AV) : List (Nat × AV) → Option (List AV)
  | [] => some cells
  | (i, v) :: rest => match place i with
    | some (off, size) => match cellsOf v with
      | some cs => match lenIs cs size && decide (off + size ≤ cells.length) with
        | true => fillA place (putN cells off cs) rest
        | false => none
      | none => none
    | none => none

theorem fillA_ok (c : OCtx P T F g B w H s ev ρ) {place : Nat → Option (Nat × Nat)} : ∀ (parts : List (Nat × Operand)) (cells out : List AV) (arr : Array Value),
    fillA place cells (parts.map fun p => (p.1, ev p.2)) = some out → VRels g w cells arr.toList → Lives H.L cells →
    ∃ arr', Instr.fill place arr (parts.map fun p => (p.1, ρ p.2)) = some arr' ∧ VRels g w out arr'.toList ∧ Lives H.L out
  | [], cells, out, arr, h, hv, hl => by
    simp only [List.map_nil, fillA, Option.some.injEq] at h
    subst h
    exact ⟨arr, rfl, hv, hl⟩
  | (i, x) :: rest, cells, out, arr, h, hv, hl => by
    simp only [List.map_cons, fillA] at h
    split at h <;> try cases h
    rename_i off size hp
    split at h <;> try cases h
    rename_i cs hcs
    split at h <;> try cases h
    rename_i hb
    simp only [Bool.and_eq_true, decide_eq_true_eq] at hb
    obtain ⟨h1, h2⟩ := cellsOf_ok hcs (c.rel x) (c.live x)
    have hlen := lenIs_ok hb.1
    have hvl := h1.length
    have hal := hv.length
    obtain ⟨arr', f1, f2, f3⟩ := fillA_ok c rest _ out _ h (hv.put h1) (Lives.of_mem _ fun a ha => by
      rcases putN_mem _ _ _ _ ha with ha | ha
      · exact hl.mem _ _ ha
      · exact h2.mem _ _ ha)
    refine ⟨arr', ?_, f2, f3⟩
    simp only [List.map_cons, Instr.fill, hp]
    have e1 : (ρ x).cells.size = size := by rw [← Array.length_toList, hvl, hlen]
    have e2 : arr.size = cells.length := by rw [← hal]; simp
    rw [if_neg (by simp [e1, e2]; omega)]
    rw [← f1]
    congr 1
    simp only [foldSet]
    rw [← Array.foldl_toList]
    congr 1
    rw [Array.toList_zipIdx]

def placesA (T : Tr TypeInfo) : List Field → Option (List (Nat × Nat))
  | [] => some []
  | f :: fs => match T.get f.type with
    | some i => match placesA T fs with
      | some l => some ((f.offset, i.size) :: l)
      | none => none
    | none => none

theorem placesA_ok (hT : TOK P T) : ∀ (fs : List Field) (l : List (Nat × Nat)), placesA T fs = some l → fs.mapM (fun f => (P.info? f.type).map fun i => (f.offset, i.size)) = some l
  | [], l, h => by simp only [placesA, Option.some.injEq] at h; subst h; rfl
  | f :: fs, l, h => by
    simp only [placesA] at h
    split at h <;> try cases h
    rename_i i hi
    split at h <;> cases h
    rename_i l' hl
    simp [List.mapM_cons, hT _ _ hi, placesA_ok hT fs l' hl]

def pBuild (T : Tr TypeInfo) (t : TypeId) (parts : List (Nat × AV)) : Plan :=
  match zeroOf T t with
  | some zs => match tyU T t with
    | some (.struct fs) => match placesA T fs.toList with
      | some places => match fillA (fun i => places.toArray[i]?) zs parts with
        | some out => .fL out fun l => .ret (.agg l)
        | none => .fail
      | none => .fail
    | some (.array _ e) => match T.get e with
      | some i => match fillA (fun j => some (j * i.size, i.size)) zs parts with
        | some out => .fL out fun l => .ret (.agg l)
        | none => .fail
      | none => .fail
    | _ => .fail
  | none => .fail

theorem pBuild_ok (c : OCtx P T F g B w H s ev ρ) {t : TypeId} {parts : Array (Nat × Operand)} (h : EvF s (pBuild T t (parts.toList.map fun p => (p.1, ev p.2))) H.o r R W) :
    OpRes g B w H W ((do let v ← Instr.build t (parts.map fun (i, x) => (i, ρ x)); pure (.value v) : Sem Next).run P w) r := by
  have hp : (parts.map fun (x : Nat × Operand) => (x.1, ρ x.2)).toList = parts.toList.map fun p => (p.1, ρ p.2) := by simp
  unfold pBuild at h
  split at h <;> try exact h.elim
  rename_i zs hz
  unfold zeroOf at hz
  cases hti : T.get t with
  | none => rw [hti] at hz; cases hz
  | some it =>
    rw [hti] at hz
    simp only at hz
    cases hzz : it.zero with
    | none => rw [hzz] at hz; cases hz
    | some z =>
      rw [hzz] at hz
      simp only [Option.some.injEq] at hz
      subst hz
      have hit := c.T _ _ hti
      split at h <;> try exact h.elim
      · rename_i fs hu
        have hu' := tyU_ok c.T hu
        split at h <;> try exact h.elim
        rename_i places hpl
        split at h <;> try exact h.elim
        rename_i out hf
        obtain ⟨rfl, rfl⟩ := evF_ret (s := s) (o := H.o) (r := r) (R := R) (W := W) h
        obtain ⟨arr, f1, f2, f3⟩ := fillA_ok c parts.toList _ out z.cells hf (ofVs_rel _ _ _) (ofVs_live _ _)
        refine OpRes.pure c.h (u := .agg arr) ?_ (by simp only [VRel]; exact ⟨_, rfl, f2⟩) f3
        have hb : P.built t (parts.map fun (x : Nat × Operand) => (x.1, ρ x.2)).toList = some arr := by
          unfold Program.built
          simp only [hit, hu', hzz, placesA_ok c.T _ _ hpl, hp]
          exact f1
        simp [run_build w t _ arr hb]
      · rename_i n e hu
        have hu' := tyU_ok c.T hu
        split at h <;> try exact h.elim
        rename_i i hi
        have hi' := c.T _ _ hi
        split at h <;> try exact h.elim
        rename_i out hf
        obtain ⟨rfl, rfl⟩ := evF_ret (s := s) (o := H.o) (r := r) (R := R) (W := W) h
        obtain ⟨arr, f1, f2, f3⟩ := fillA_ok c parts.toList _ out z.cells hf (ofVs_rel _ _ _) (ofVs_live _ _)
        refine OpRes.pure c.h (u := .agg arr) ?_ (by simp only [VRel]; exact ⟨_, rfl, f2⟩) f3
        have hb : P.built t (parts.map fun (x : Nat × Operand) => (x.1, ρ x.2)).toList = some arr := by
          unfold Program.built
          simp only [hit, hu', hzz, hi', hp]
          exact f1
        simp [run_build w t _ arr hb]

/-- A block that nothing but an immutable row lies in. -/
theorem HRel.newRow (h : HRel g B w H) (arr : Array Value) (ty : TypeId) (k : Nat) :
    ∃ g', Out g B w H g' (w.alloc (.cells arr ty)) H ∧ g'.im w.heap.size = k := by
  let g' : Gh := { g with im := fun b => if b = w.heap.size then k else g.im b }
  have hbl : ∀ b j, j < g.im b → b < w.heap.size := fun b j hj => by
    apply Nat.lt_of_not_le
    intro hb
    rw [h.imz b hb] at hj
    omega
  have hx : Ext H.L g w g' (w.alloc (.cells arr ty)) := by
    refine ⟨fun _ _ => rfl, fun _ _ => Nat.le_refl _, fun _ _ _ => ⟨rfl, rfl⟩, fun b => ?_, fun b j hj => cell_alloc_lt (hbl b j hj)⟩
    show g.im b ≤ if b = w.heap.size then k else g.im b
    split
    · rename_i e; rw [h.imz b (by omega)]; omega
    · omega
  refine ⟨g', ⟨?_, hx, (RowKit.Below.refl B w).alloc h.hB _, fun _ h => h, fun k hk _ => ⟨alloc_old hk, if_neg (by omega)⟩, fun k ⟨i, hi, e⟩ => .inl ⟨i, hi, by rw [← hx.bk _ hi rfl]; exact e⟩⟩, if_pos rfl⟩
  constructor
  · exact h.wf
  · intro i hi
    have := h.ge i hi
    refine ⟨?_, ?_⟩
    · cases ho : H.o i <;> rw [ho] at this <;> exact this.1
    · have h2 : g.bk (H.o i) i < (w.alloc (.cells arr ty)).heap.size := by simp; omega
      cases ho : H.o i <;> rw [ho] at h2 <;> exact h2
  · intro i j hi hj e
    refine h.inj i j hi hj ?_
    cases ho : H.o i <;> cases ho' : H.o j <;> rw [ho, ho'] at e <;> exact e
  · intro i
    by_cases hi : H.o i = .hole
    · rw [hi]; trivial
    · have hge := (h.ge i hi).2
      refine (h.rel i).ext hx (h.live i) hi ?_ ?_ rfl
      · show (w.heap.push _)[_]? = _
        rw [Array.getElem?_push, if_neg (by omega)]
      · show (if _ = w.heap.size then k else _) = _
        rw [if_neg (by omega)]
  · exact h.live
  · exact h.kp
  · intro b hb
    simp at hb
    show (if b = w.heap.size then k else g.im b) = 0
    rw [if_neg (by omega)]
    exact h.imz b (by omega)
  · simp; have := h.hB; omega

theorem newRow_list (h : HRel g B w H) {xs : List AV} {arr : Array Value} {ty : TypeId} {n : Nat} (hv : VRels g w xs arr.toList) (hl : Lives H.L xs) :
    ∃ g', Out g B w H g' (w.alloc (.cells arr ty)) H ∧ VRel g' (w.alloc (.cells arr ty)) (.lst xs n .full) (.slice (some ⟨w.heap.size, 0, none⟩) n n) ∧ Live H.L (.lst xs n .full) := by
  obtain ⟨g', e1, e2⟩ := h.newRow arr ty xs.length
  refine ⟨g', e1, ?_, hl, fun c hc => by cases hc⟩
  simp only [VRel]
  refine ⟨w.heap.size, 0, n, rfl, Nat.le_refl _, by omega, ?_, rfl⟩
  refine LRel.of_get _ _ fun j a ha => ?_
  obtain ⟨v, f1, f2⟩ := hv.get _ _ ha
  refine ⟨v, ?_, f2.ext e1.ext _ _ (hl.mem _ _ (List.mem_of_getElem? ha))⟩
  have := World.cell?_alloc_new w arr ty (0 + j)
  rw [this, Nat.zero_add]
  simpa using f1

def repN (zs : List AV) : Nat → List AV
  | 0 => []
  | n + 1 => zs ++ repN zs n

theorem repN_len (zs : List AV) : ∀ n, (repN zs n).length = n * zs.length
  | 0 => by simp [repN]
  | n + 1 => by simp [repN, repN_len zs n, Nat.add_mul, Nat.add_comm]

theorem repN_get (zs : List AV) : ∀ (n j : Nat), j < n * zs.length → (repN zs n)[j]? = zs[j % zs.length]?
  | 0, j, h => by simp at h
  | n + 1, j, h => by
    simp only [repN]
    by_cases e : j < zs.length
    · rw [List.getElem?_append_left e, Nat.mod_eq_of_lt e]
    · rw [List.getElem?_append_right (by omega), repN_get zs n _ (by rw [Nat.add_mul, Nat.one_mul] at h; omega), ← Nat.mod_eq_sub_mod (by omega)]

theorem repN_mem (zs : List AV) : ∀ (n : Nat) (a : AV), a ∈ repN zs n → a ∈ zs
  | 0, a, h => by simp [repN] at h
  | n + 1, a, h => by
    simp only [repN, List.mem_append] at h
    rcases h with h | h
    · exact h
    · exact repN_mem zs n a h

theorem repN_rel {zs : List AV} {z : Array Value} (h : VRels g w zs z.toList) (n : Nat) : VRels g w (repN zs n) ((Array.range (n * z.size)).map (z[· % z.size]!)).toList := by
  have hl := h.length
  have hz : z.size = zs.length := by rw [← hl]; simp
  refine VRels.of_get _ _ (by rw [repN_len]; simp [hz]) fun j a ha => ?_
  have hj : j < n * zs.length := by
    have := (List.getElem?_eq_some_iff.1 ha).1
    rwa [repN_len] at this
  rw [repN_get _ _ _ hj] at ha
  obtain ⟨v, h1, h2⟩ := h.get _ _ ha
  refine ⟨v, ?_, h2⟩
  have h3 : z[j % z.size]? = some v := by rw [hz]; simpa using h1
  have h4 : z[j % z.size]! = v := by
    rw [getElem!_def, h3]
  rw [Array.getElem?_toList, Array.getElem?_map, Array.getElem?_range, if_pos (by rw [hz]; exact hj)]
  simp [h4]

def pBuildSlice (T : Tr TypeInfo) (t : TypeId) (len : Nat) (parts : List (Nat × AV)) : Plan :=
  match tyU T t with
  | some (.slice e) => match T.get e with
    | some i => match len with
      | 0 => match parts with
        | [] => .ret (.lst [] 0 .full)
        | _ => .fail
      | len + 1 => match i.zero with
        | some z => .chk (!((len + 1) * i.size == 0)) (.chk (decide ((len + 1) * i.size ≤ 16777216)) (.chk (lenIs (ofVs z.cells.toList) i.size)
            (match fillA (fun j => some (j * i.size, i.size)) (repN (ofVs z.cells.toList) (len + 1)) parts with
            | some out => .fL out fun l => .ret (.lst l (len + 1) .full)
            | none => .fail)))
        | none => .fail
    | none => .fail
  | _ => .fail

theorem pBuildSlice_ok (c : OCtx P T F g B w H s ev ρ) {t : TypeId} {len : Nat} {parts : Array (Nat × Operand)} (h : EvF s (pBuildSlice T t len (parts.toList.map fun p => (p.1, ev p.2))) H.o r R W) :
    OpRes g B w H W ((do let v ← Instr.buildSlice t len (parts.map fun (i, x) => (i, ρ x)); pure (.value v) : Sem Next).run P w) r := by
  have hp : (parts.map fun (x : Nat × Operand) => (x.1, ρ x.2)).toList = parts.toList.map fun p => (p.1, ρ p.2) := by simp
  unfold pBuildSlice at h
  split at h <;> try exact h.elim
  rename_i e hu
  have hu' := tyU_ok c.T hu
  split at h <;> try exact h.elim
  rename_i i hi
  have hi' := c.T _ _ hi
  split at h
  · split at h <;> try exact h.elim
    rename_i hnil
    have hnil : parts.toList = [] := by simpa using hnil
    obtain ⟨rfl, rfl⟩ := evF_ret h
    obtain ⟨g', f1, f2, f3⟩ := newRow_list (ty := e) (n := 0) (xs := []) (arr := #[]) c.h (by simp [VRels]) trivial
    refine ⟨_, g', _, ?_, f1, f2, f3⟩
    have : parts = #[] := by
      apply Array.ext'
      simpa using hnil
    subst this
    simp [Instr.buildSlice, run_underlying hu', sizeOf, typeInfo, hi', Instr.fill, newRow]
    have e0 : Array.range 0 = #[] := by apply Array.ext'; simp
    rw [e0]
    simp
  · rename_i len
    split at h <;> try exact h.elim
    rename_i z hz
    obtain ⟨h1, h2, h3, h⟩ := h
    have h1 : ¬ (len + 1) * i.size = 0 := by simpa using h1
    have h2 := of_decide_eq_true h2
    have h3 := lenIs_ok h3
    split at h <;> try exact h.elim
    rename_i out hf
    obtain ⟨rfl, rfl⟩ := evF_ret (s := s) (o := H.o) (r := r) (R := R) (W := W) h
    have hzr := ofVs_rel g w z.cells.toList
    have hzs : z.cells.size = i.size := by rw [← Array.length_toList, hzr.length, h3]
    have hrep := repN_rel (n := len + 1) hzr
    rw [hzs] at hrep
    obtain ⟨arr, f1, f2, f3⟩ := fillA_ok c parts.toList _ out _ hf hrep (Lives.of_mem _ fun a ha => (ofVs_live _ _).mem _ _ (repN_mem _ _ _ ha))
    obtain ⟨g', k1, k2, k3⟩ := newRow_list (ty := e) (n := len + 1) c.h f2 f3
    refine ⟨_, g', _, ?_, k1, k2, k3⟩
    have := run_buildSlice w t e (len + 1) (parts.map fun (x : Nat × Operand) => (x.1, ρ x.2)) arr i z hu' hi' hz (by omega) h1 (by rw [hp, hzs]; exact f1)
    simp [this]

def pMakeSlice (T : Tr TypeInfo) (t : TypeId) (len cap : AV) : Plan :=
  match tyU T t with
  | some (.slice e) => match T.get e with
    | some i => match zeroOf T e with
      | some zs => match zs with
        | [z] => .chk (decide (i.size = 1)) (match len with
          | .int _ l => match cap with
            | .int _ c => .chk (decide (0 ≤ l)) (.chk (decide (l ≤ c)) (.chk (decide (c ≤ (strLe : Int))) (.chk (decide (i.bytes * c.toNat ≤ 2 * roomOk))
                (.newc c.toNat z e fun id => .ret (.slc id 0 l.toNat c.toNat)))))
            | _ => .fail
          | _ => .fail)
        | _ => .fail
      | none => .fail
    | none => .fail
  | _ => .fail

theorem wrap_id {x : Int} (h0 : 0 ≤ x) (h1 : x ≤ 9223372036854775807) : IntKind.i64.wrap x = x := by
  have e : x % (2 ^ IntKind.i64.bits : Int) = x := Int.emod_eq_of_lt h0 (by show x < 2 ^ 64; omega)
  unfold IntKind.wrap
  simp only [e]
  rw [if_neg]
  show ¬ ((true && decide (x ≥ (2 : Int) ^ (64 - 1))) = true)
  simp
  omega

theorem pMakeSlice_ok (c : OCtx P T F g B w H s ev ρ) {t : TypeId} {x y : Operand} (h : EvF s (pMakeSlice T t (ev x) (ev y)) H.o r R W) :
    OpRes g B w H W ((do let v ← Instr.makeSlice t (ρ x) (ρ y); pure (.value v) : Sem Next).run P w) r := by
  have hx := c.rel x
  have hy := c.rel y
  unfold pMakeSlice at h
  split at h <;> try exact h.elim
  rename_i e hu
  have hu' := run_underlying_ok c.T hu w
  split at h <;> try exact h.elim
  rename_i i hi
  have hinf := run_typeInfo_ok c.T hi w
  have hsz := run_sizeOf_ok c.T hi w
  split at h <;> try exact h.elim
  rename_i zs hz
  obtain ⟨zv, hzv, hze⟩ := zeroOf_ok c.T hz
  split at h <;> try exact h.elim
  rename_i z0
  obtain ⟨h1, h⟩ := h
  have h1 := of_decide_eq_true h1
  split at h <;> try exact h.elim
  rename_i k l ex
  rw [ex] at hx
  simp only [VRel] at hx
  split at h <;> try exact h.elim
  rename_i k' cp ey
  rw [ey] at hy
  simp only [VRel] at hy
  obtain ⟨h2, h3, h4, h5, W', tr, htr, rfl, h⟩ := h
  obtain ⟨rfl, rfl⟩ := evF_ret h
  have h2 := of_decide_eq_true h2
  have h3 := of_decide_eq_true h3
  have h4 := of_decide_eq_true h4
  have h5 := of_decide_eq_true h5
  unfold strLe at h4
  unfold roomOk at h5
  have w1 := wrap_id h2 (by omega)
  have w2 := wrap_id (x := cp) (by omega) (by omega)
  have hrel := ofVs_rel g w zv.cells.toList
  rw [← hze] at hrel
  have hzs : zv.cells.size = 1 := by
    have := hrel.length
    simpa using this
  obtain ⟨u, us, eu, hu1, hu2⟩ := hrel
  have hu2 : us = [] := by simpa [VRels] using hu2
  subst hu2
  have hz0 : ∀ j : Nat, zv.cells[j % 1]! = u := fun j => by
    have : zv.cells[0]? = some u := by
      rw [← Array.getElem?_toList, eu]; rfl
    rw [Nat.mod_one, getElem!_def, this]
  let arr : Array Value := (Array.range (cp.toNat * i.size)).map ((if cp.toNat * i.size = 0 then #[] else zv.cells)[· % (if cp.toNat * i.size = 0 then (#[] : Array Value) else zv.cells).size]!)
  have harr : arr.size = cp.toNat := by simp [arr, h1]
  have hgl : ∀ j, j < cp.toNat → ∃ v, arr[j]? = some v ∧ VRel g w z0 v := fun j hj => by
    have e0 : ¬ cp.toNat = 0 := by omega
    refine ⟨u, ?_, hu1⟩
    simp only [arr, h1, Nat.mul_one]
    rw [Array.getElem?_map, Array.getElem?_range, if_pos hj]
    simp only [Option.map_some, if_neg e0, hzs, hz0]
  obtain ⟨g', f1, f2⟩ := c.h.newCopies c.s (ty := e) htr harr hgl (by rw [show z0 = z0 from rfl]; have := ofVs_live H.L zv.cells.toList; rw [← hze] at this; exact this.1)
  refine ⟨.slice (some ⟨w.heap.size, 0, none⟩) l.toNat cp.toNat, g', _, ?_, f1, ?_, AH.put_L_same H s _ (by simp)⟩
  · have t1 : ¬ cp < 0 := by omega
    have t2 : ¬ ((i.bytes : Int) * cp > 281474976710656) := by
      have : ((i.bytes * cp.toNat : Nat) : Int) = (i.bytes : Int) * cp := by
        rw [Int.natCast_mul, Int.toNat_of_nonneg (by omega)]
      omega
    have t3 : ¬ l < 0 := by omega
    have t4 : ¬ l > cp := by omega
    have tl : (decide (cp < 0) || decide ((i.bytes : Int) * cp > 2 ^ 48)) = false := by
      simp only [Bool.or_eq_false_iff, decide_eq_false_iff_not]
      refine ⟨t1, ?_⟩
      intro hc
      exact t2 (by have : (2 : Int) ^ 48 = 281474976710656 := by decide
                   omega)
    by_cases e0 : cp.toNat * i.size = 0
    · simp only [Instr.makeSlice, Sem.run_bind, hu', Result.andThen_ok, hx, hy, asInt, asIntOf, Sem.run_pure, hinf, w1, w2, tl, t3, t4, decide_false, Bool.or_false, Bool.false_eq_true, if_false, Sem.run_ite, run_askRoom, hsz, e0, if_true, newRow, run_newObj, arr]
      rfl
    · simp only [Instr.makeSlice, Sem.run_bind, hu', Result.andThen_ok, hx, hy, asInt, asIntOf, Sem.run_pure, hinf, w1, w2, tl, t3, t4, decide_false, Bool.or_false, Bool.false_eq_true, if_false, Sem.run_ite, run_askRoom, hsz, e0, hzv, newRow, run_newObj, arr]
      rfl
  · simp only [VRel]; rw [f2]

end
end
end Go.Abs
