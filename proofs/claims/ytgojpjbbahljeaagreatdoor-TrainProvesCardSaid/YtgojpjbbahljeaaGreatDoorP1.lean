/-
  Pure calls: over any heap, and nothing of it is touched.
-/
import Derived.Test.YtgojpjbbahljeaaGreatDoorA20
/-! Pure calls: over any heap, and nothing of it is touched. -/
namespace Go.Abs
open Go
noncomputable section

def noL : Nat → Prop := fun _ => False

def Pure (P : Program) (f : FuncId) (args : List AV) (v : AV) : Prop := Live noL v ∧ ∀ B H, CSem P B f args H (.ret v) H

def AH.nil : AH := ⟨0, 0, fun _ => .hole⟩

theorem HRel.ofNil {g : Gh} {B : Nat} {w : World} {H : AH} (h : HRel g B w H) : HRel g w.heap.size w AH.nil where
  wf := fun _ _ => rfl
  ge := fun _ h => absurd rfl h
  inj := fun _ _ h => absurd rfl h
  rel := fun _ => trivial
  live := fun _ => trivial
  kp := fun _ => trivial
  imz := h.imz
  hB := Nat.le_refl _

theorem not_owned_nil (g : Gh) (k : Nat) : ¬ Owned g AH.nil k := fun ⟨_, h, _⟩ => h rfl

/-- What a run from no heap does, it does beside any heap. -/
theorem Out.beside {g g' : Gh} {B : Nat} {w w' : World} {H H' : AH} (h : HRel g B w H) (ho : Out g w.heap.size w AH.nil g' w' H') :
    Out g B w H { g' with ob := g.ob, cn := g.cn, cb := g.cb, cc := g.cc } w' H := by
  let g2 : Gh := { g' with ob := g.ob, cn := g.cn, cb := g.cb, cc := g.cc }
  have hx : Ext H.L g w g2 w' := ⟨fun _ _ => rfl, fun _ _ => Nat.le_refl _, fun _ _ _ => ⟨rfl, rfl⟩, ho.ext.im, ho.ext.cell⟩
  have hbk : ∀ x i, g2.bk x i = g.bk x i := fun x i => by cases x <;> rfl
  refine ⟨⟨h.wf, fun i hi => ?_, fun i j hi hj e => ?_, fun i => ?_, h.live, h.kp, ho.rel.imz, Nat.le_trans h.hB ho.below.size⟩, hx, ho.below.mono h.hB, fun _ hi => hi, fun k hk _ => ho.frame k hk (not_owned_nil g k), ?_⟩
  · rw [hbk]; exact ⟨(h.ge i hi).1, Nat.lt_of_lt_of_le (h.ge i hi).2 ho.below.size⟩
  · rw [hbk, hbk] at e; exact h.inj i j hi hj e
  · by_cases e : H.o i = .hole
    · rw [e]; trivial
    · have hf := ho.frame _ (h.ge i e).2 (not_owned_nil g _)
      exact (h.rel i).ext hx (h.live i) e hf.1 hf.2 rfl
  · rintro k ⟨i, hi, e⟩
    rw [hbk] at e
    exact .inl ⟨i, hi, e⟩

theorem VRel.noref {g g' : Gh} {w : World} {v : AV} {u : Value} (hv : VRel g w v u) (hl : Live noL v) (him : g'.im = g.im) : VRel g' w v u :=
  hv.ext (L := noL) ⟨fun _ h => h.elim, fun _ h => h.elim, fun _ h => h.elim, fun b => by rw [him]; exact Nat.le_refl _, fun _ _ _ => rfl⟩ v u hl

theorem Live.ofNo {L : Nat → Prop} {v : AV} (h : Live noL v) : Live L v := h.mono fun _ h => h.elim
theorem Lives.ofNo {L : Nat → Prop} {vs : List AV} (h : Lives noL vs) : Lives L vs := h.mono fun _ h => h.elim

/-- A weaker value: it stands for whatever the other stands for. -/
def Wk (v v' : AV) : Prop := ∀ g w u, VRel g w v u → VRel g w v' u

theorem pure_of {P : Program} {f : FuncId} {args : List AV} {v v' : AV} (h : ∀ B, ∃ H', CSem P B f args AH.nil (.ret v) H') (ha : Lives noL args) (hw : Wk v v') (hl : Live noL v') : Pure P f args v' := by
  refine ⟨hl, fun B H g vs cs w hr hv _ => ?_⟩
  obtain ⟨H', hc⟩ := h w.heap.size
  obtain ⟨g', fr', w', h1, h2, h3, u, h4, h5, h6⟩ := hc g vs cs w hr.ofNil hv ha.ofNo
  exact ⟨_, fr', w', h1.beside hr, h2, h3, u, h4, (hw _ _ _ h5).noref hl rfl, hl.ofNo⟩

/-! The owner of a list's spare places is forgotten. -/
mutual
def wk : AV → AV
  | .lst xs n own => match own with
    | .full => .lst (wkl xs) n .full
    | _ => .lst (wkl xs) n .no
  | .iface t v => .iface t (wk v)
  | .agg cs => .agg (wkl cs)
  | .tup cs => .tup (wkl cs)
  | .lptr xs off => .lptr (wkl xs) off
  | v => v
def wkl : List AV → List AV
  | [] => []
  | x :: xs => wk x :: wkl xs
end

theorem wkl_length : ∀ xs : List AV, (wkl xs).length = xs.length
  | [] => rfl
  | x :: xs => by simp [wkl, wkl_length xs]

mutual
theorem wk_ok (g : Gh) (w : World) : ∀ (v : AV) (u : Value), VRel g w v u → VRel g w (wk v) u
  | .unk, _, h => h
  | .int _ _, _, h => h
  | .bool _, _, h => h
  | .str _, _, h => h
  | .nilp, _, h => h
  | .ptr _ _, _, h => h
  | .lptr xs off, v, h => by
    simp only [wk, VRel] at h ⊢
    obtain ⟨b, o0, hv, hb, hr⟩ := h
    exact ⟨b, o0, hv, by rw [wkl_length]; exact hb, wkl_cells g w xs b o0 hr⟩
  | .gp _ _, _, h => h
  | .nils, _, h => h
  | .slc _ _ _ _, _, h => h
  | .lst xs n own, v, h => by
    simp only [VRel] at h
    obtain ⟨b, off, cap, hv, hn, hb, hr, ho⟩ := h
    cases own with
    | no => simp only [wk, VRel]; exact ⟨b, off, cap, hv, hn, by rw [wkl_length]; exact hb, wkl_cells g w xs b off hr, trivial⟩
    | full => simp only [wk, VRel]; exact ⟨b, off, cap, hv, hn, by rw [wkl_length]; exact hb, wkl_cells g w xs b off hr, ho⟩
    | ch c => simp only [wk, VRel]; exact ⟨b, off, cap, hv, hn, by rw [wkl_length]; exact hb, wkl_cells g w xs b off hr, trivial⟩
  | .nilm, _, h => h
  | .map _, _, h => h
  | .nilf, _, h => h
  | .func _ _ _, _, h => h
  | .yld _, _, h => h
  | .nili, _, h => h
  | .iface t a, v, h => by
    simp only [wk, VRel] at h ⊢
    obtain ⟨u, hv, h1⟩ := h
    exact ⟨u, hv, wk_ok g w a u h1⟩
  | .agg cs, v, h => by
    simp only [wk, VRel] at h ⊢
    obtain ⟨vs, hv, h1⟩ := h
    exact ⟨vs, hv, wkl_vals g w cs _ h1⟩
  | .tup cs, v, h => by
    simp only [wk, VRel] at h ⊢
    obtain ⟨vs, hv, h1⟩ := h
    exact ⟨vs, hv, wkl_vals g w cs _ h1⟩
theorem wkl_cells (g : Gh) (w : World) : ∀ (xs : List AV) (b off : Nat), LRel g w xs b off → LRel g w (wkl xs) b off
  | [], _, _, _ => trivial
  | x :: xs, b, off, h => by
    simp only [wkl, LRel] at h ⊢
    obtain ⟨⟨u, hu, hv⟩, hr⟩ := h
    exact ⟨⟨u, hu, wk_ok g w x u hv⟩, wkl_cells g w xs b (off + 1) hr⟩
theorem wkl_vals (g : Gh) (w : World) : ∀ (xs : List AV) (vs : List Value), VRels g w xs vs → VRels g w (wkl xs) vs
  | [], _, h => h
  | x :: xs, vs, h => by
    simp only [wkl, VRels] at h ⊢
    obtain ⟨u, us, e, h1, h2⟩ := h
    exact ⟨u, us, e, wk_ok g w x u h1, wkl_vals g w xs us h2⟩
end

mutual
theorem wk_live {L : Nat → Prop} : ∀ (v : AV), Live L v → Live L (wk v)
  | .unk, h => h
  | .int _ _, h => h
  | .bool _, h => h
  | .str _, h => h
  | .nilp, h => h
  | .ptr _ _, h => h
  | .lptr xs _, h => wkl_live xs h
  | .gp _ _, h => h
  | .nils, h => h
  | .slc _ _ _ _, h => h
  | .lst xs _ .no, h => ⟨wkl_live xs h.1, fun _ e => by cases e⟩
  | .lst xs _ .full, h => ⟨wkl_live xs h.1, fun _ e => by cases e⟩
  | .lst xs _ (.ch _), h => ⟨wkl_live xs h.1, fun _ e => by cases e⟩
  | .nilm, h => h
  | .map _, h => h
  | .nilf, h => h
  | .func _ _ _, h => h
  | .yld _, h => h
  | .nili, h => h
  | .iface _ a, h => wk_live a h
  | .agg cs, h => wkl_live cs h
  | .tup cs, h => wkl_live cs h
theorem wkl_live {L : Nat → Prop} : ∀ (xs : List AV), Lives L xs → Lives L (wkl xs)
  | [], h => h
  | x :: xs, h => ⟨wk_live x h.1, wkl_live xs h.2⟩
end

theorem Pure.ofWk {P : Program} {f : FuncId} {args : List AV} {v : AV} (h : Pure P f (wkl args) v) : Pure P f args v :=
  ⟨h.1, fun B H g vs cs w hr hv hl => h.2 B H g vs cs w hr (wkl_vals g w args _ hv) (wkl_live args hl)⟩

theorem Wk.wk (v : AV) : Wk v (wk v) := fun g w u h => wk_ok g w v u h
theorem Wk.refl (v : AV) : Wk v v := fun _ _ _ h => h

/-! ### No references -/
mutual
def noref : AV → Bool
  | .ptr _ _ => false
  | .lptr xs _ => norefs xs
  | .slc _ _ _ _ => false
  | .lst xs _ own => match own with
    | .ch _ => false
    | _ => norefs xs
  | .map _ => false
  | .func _ f c => norefs f && norefs c
  | .yld _ => false
  | .iface _ v => noref v
  | .agg cs => norefs cs
  | .tup cs => norefs cs
  | _ => true
def norefs : List AV → Bool
  | [] => true
  | x :: xs => match noref x with
    | true => norefs xs
    | false => false
end

mutual
theorem noref_ok : ∀ (v : AV), noref v = true → Live noL v
  | .unk, _ => trivial
  | .int _ _, _ => trivial
  | .bool _, _ => trivial
  | .str _, _ => trivial
  | .nilp, _ => trivial
  | .ptr _ _, h => by simp [noref] at h
  | .lptr xs _, h => norefs_ok xs (by simpa [noref] using h)
  | .gp _ _, _ => trivial
  | .nils, _ => trivial
  | .slc _ _ _ _, h => by simp [noref] at h
  | .lst xs _ .no, h => ⟨norefs_ok xs (by simpa [noref] using h), fun _ e => by cases e⟩
  | .lst xs _ .full, h => ⟨norefs_ok xs (by simpa [noref] using h), fun _ e => by cases e⟩
  | .lst xs _ (.ch _), h => by simp [noref] at h
  | .nilm, _ => trivial
  | .map _, h => by simp [noref] at h
  | .nilf, _ => trivial
  | .func _ f c, h => by
    simp only [noref, Bool.and_eq_true] at h
    exact ⟨norefs_ok f h.1, norefs_ok c h.2⟩
  | .yld _, h => by simp [noref] at h
  | .nili, _ => trivial
  | .iface _ a, h => noref_ok a (by simpa [noref] using h)
  | .agg cs, h => norefs_ok cs (by simpa [noref] using h)
  | .tup cs, h => norefs_ok cs (by simpa [noref] using h)
theorem norefs_ok : ∀ (xs : List AV), norefs xs = true → Lives noL xs
  | [], _ => trivial
  | x :: xs, h => by
    simp only [norefs] at h
    split at h
    · rename_i hx
      exact ⟨noref_ok x hx, norefs_ok xs h⟩
    · cases h
end

end
end Go.Abs
