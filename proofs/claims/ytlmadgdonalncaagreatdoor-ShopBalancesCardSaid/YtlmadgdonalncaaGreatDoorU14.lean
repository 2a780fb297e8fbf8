/-
  Books of accounts, plain: the document's order of settlements.
-/
import Derived.Test.YtlmadgdonalncaaGreatDoorU12
import Derived.Test.YtlmadgdonalncaaGreatDoorU8
/-! Books of accounts, plain: the document's order of settlements. -/
namespace Go.Abs.Seat
noncomputable section
open Go Go.Abs Go.Proofs.Tryz
set_option maxRecDepth 100000
set_option maxHeartbeats 4000000

def pk (C : List LkI) (x : List Int) : List LkI := x.map fun i => gL C i.toNat
theorem pk_len (C : List LkI) (x : List Int) : (pk C x).length = x.length := List.length_map _
theorem asc_le {a b hi : Int} (h : a ≤ b) : ∀ {x : List Int}, Asc b hi x → Asc a hi x
 | [], _ => trivial
 | _ :: _, k => ⟨Int.le_trans h k.1, k.2⟩
theorem asc_sub (C : List LkI) : ∀ (x : List Int) (a : Nat), Asc a C.length x → (pk C x).Sublist (C.drop a)
 | [], _, _ => List.nil_sublist _
 |q :: r, a, h => by
  have h1 : (a : Int) ≤ q := h.1
  have h2 : q < (C.length : Int) := h.2.1
  have ih := asc_sub C r (q.toNat + 1) (by
   have : ((q.toNat + 1 : Nat) : Int) = q + 1 := by omega
   rw [this]; exact h.2.2)
  have hd := drop_gL C (i := q.toNat) (by omega)
  have : (pk C (q :: r)).Sublist (C.drop q.toNat) := by
   rw [hd]
   exact ih.cons_cons _
  exact this.trans (List.drop_sublist_drop_left C (by omega))
theorem asc_ex (C : List LkI) : ∀ (k a : Nat) (E : List LkI), C.length = a + k → E.Sublist (C.drop a) → ∃ x, Asc a C.length x ∧ pk C x = E
 | 0, a, E, hl, h => by
  rw [List.drop_eq_nil_of_le (by omega)] at h
  exact ⟨[], trivial, (List.sublist_nil.1 h).symm⟩
 |k + 1, a, E, hl, h => by
  rw [drop_gL C (i := a) (by omega)] at h
  cases h with
  |cons _ h =>
   obtain ⟨x, h1, h2⟩ := asc_ex C k (a + 1) E (by omega) h
   exact ⟨x, asc_le (by omega) h1, h2⟩
  |cons_cons _ h =>
   rename_i E'
   obtain ⟨x, h1, h2⟩ := asc_ex C k (a + 1) E' (by omega) h
   refine ⟨(a : Int) :: x, ⟨Int.le_refl _, by omega, ?_⟩, ?_⟩
   ·have : ((a + 1 : Nat) : Int) = (a : Int) + 1 := by omega
    rw [← this]; exact h1
   ·show gL C ((a : Int)).toNat :: pk C x = _
    rw [h2]; rfl
theorem pk_mem {C : List LkI} {n : Nat} {x : List Int} (h : x ∈ lsts n 0 C.length) : (pk C x).Sublist C ∧ x.length = n ∧ Asc 0 C.length x := by
 obtain ⟨h1, h2⟩ := (lsts_mem C.length n 0 x).1 h
 rw [Nat.zero_add] at h2
 exact ⟨asc_sub C x 0 h2, h1, h2⟩
theorem pk_ex {C E : List LkI} (h : E.Sublist C) : ∃ x, x ∈ lsts E.length 0 C.length ∧ pk C x = E := by
 obtain ⟨x, h1, h2⟩ := asc_ex C C.length 0 E (by omega) h
 refine ⟨x, (lsts_mem C.length E.length 0 x).2 ⟨by rw [← h2, pk_len], ?_⟩, h2⟩
 rw [Nat.zero_add]; exact h1
theorem pw_ix {C : List LkI} (hC : C.Pairwise elP) {i j : Nat} (hi : i < C.length) (hj : j < C.length) (h : i < j) : elP (gL C i) (gL C j) := by
 have e1 : gL C i = C[i] := by simp [gL, List.getD, hi]
 have e2 : gL C j = C[j] := by simp [gL, List.getD, hj]
 rw [e1, e2]
 exact List.pairwise_iff_getElem.1 hC i j hi hj h
theorem pk_ord {C : List LkI} (hC : C.Pairwise elP) : ∀ (x y : List Int) (a b : Int), 0 ≤ a → 0 ≤ b → Asc a C.length x → Asc b C.length y → lxP (pk C y) (pk C x) → lexI y x < 0
 | [], [], _, _, _, _, _, _, h => absurd h (by simp [pk, lxP])
 | [], _ :: _, _, _, _, _, _, _, h => absurd h (by simp [pk, lxP])
 | _ :: _, [], _, _, _, _, _, _, _ => by simp [lexI]
 |p :: x, q :: y, a, b, ha, hb, hx, hy, h => by
  have p1 : a ≤ p := hx.1
  have p2 : p < (C.length : Int) := hx.2.1
  have q1 : b ≤ q := hy.1
  have q2 : q < (C.length : Int) := hy.2.1
  have h : lxP (gL C q.toNat :: pk C y) (gL C p.toNat :: pk C x) := h
  rw [lxP] at h
  rw [lexI]
  rcases Int.lt_trichotomy q p with l | e | g
  ·rw [if_neg fun z => by have := (ordJ_z _ _).1 z; omega]
   exact (ordJ_lt _ _).2 l
  ·subst e
   rw [if_pos ((ordJ_z _ _).2 rfl)]
   rcases h with h | h
   ·unfold elP at h; omega
   ·exact pk_ord hC x y (q + 1) (q + 1) (by omega) (by omega) hx.2.2 hy.2.2 h.2
  ·have k := pw_ix hC (i := p.toNat) (j := q.toNat) (by omega) (by omega) (by omega)
   unfold elP at h k
   omega
def dfl (b : List Int) (n i : Nat) : Prop := (∀ n', n' < n → ∀ y, y ∈ lsts n' 0 (cnL b).length → slv b (pk (cnL b) y) = none) ∧ ∀ j, j < i → slv b (pk (cnL b) (gs (lsts n 0 (cnL b).length) j)) = none
theorem gs_ex {l : List (List Int)} {y : List Int} (h : y ∈ l) : ∃ j, j < l.length ∧ gs l j = y := by
 obtain ⟨j, hj, e⟩ := List.getElem_of_mem h
 exact ⟨j, hj, by simp [gs, List.getD, hj, e]⟩
theorem dfl_best {b : List Int} {n i : Nat} (h : dfl b n i) (hi : i < (lsts n 0 (cnL b).length).length) {X : List LkI} (hX : slv b (pk (cnL b) (gs (lsts n 0 (cnL b).length) i)) = some X) : BkS b X := by
 obtain ⟨s1, s2, s3⟩ := pk_mem (gs_mem _ hi)
 refine ⟨_, s1, hX, fun E' X' e1 e2 he => ?_⟩
 obtain ⟨y, y1, y2⟩ := pk_ex e1
 rcases he with he | ⟨he1, he2⟩
 ·rw [pk_len, s2] at he
  rw [← y2, h.1 _ he y y1] at e2
  cases e2
 ·rw [pk_len, s2] at he1
  rw [he1] at y1
  obtain ⟨j, j1, j2⟩ := gs_ex y1
  obtain ⟨_, _, t3⟩ := pk_mem y1
  rw [← y2] at he2
  have := pk_ord (cnF_ord b _) _ _ 0 0 (Int.le_refl 0) (Int.le_refl 0) s3 t3 he2
  rw [← j2] at this
  have hji := lsts_ix j1 hi this
  rw [← y2, ← j2, h.2 j hji] at e2
  cases e2
theorem dfl_all {b : List Int} (h : dfl b (cnL b).length 0) {R : List LkI} (hR : BkS b R) : slv b (cnL b) = some R := by
 obtain ⟨E, e1, e2, _⟩ := hR
 obtain ⟨y, y1, y2⟩ := pk_ex e1
 by_cases hl : E.length < (cnL b).length
 ·have := h.1 _ hl y y1
  rw [y2, e2] at this
  cases this
 ·have := e1.eq_of_length_le (by omega)
  rw [← this]; exact e2
end
end Go.Abs.Seat
