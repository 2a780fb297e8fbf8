/-
  The best new link is the first one of the nearest: plain.
  A wider range: changes, plain.
-/
import Derived.Test.YtikikanopganaaaGreatDoorB27
import Derived.Test.YtikikanopganaaaGreatDoorU14
/-! The best new link is the first one of the nearest: plain. -/
namespace Go.Abs.Seat
noncomputable section
open Go Go.Abs Go.Proofs.Tryz
set_option maxRecDepth 100000
set_option maxHeartbeats 4000000

def ltK (x y : Lk) : Prop := x.1 < y.1 ∨ x.1 = y.1 ∧ (x.2.1 < y.2.1 ∨ x.2.1 = y.2.1 ∧ x.2.2 < y.2.2)
theorem ltK_as {x y : Lk} (h : ltK x y) : ¬ ltK y x := by unfold ltK at *; omega
theorem cB_pw (f a lo : Nat) : ∀ j, List.Pairwise ltK (cB f a lo j)
 | 0 => List.Pairwise.nil
 |j + 1 => by
  rw [cB, List.pairwise_append]
  refine ⟨cB_pw f a lo j, List.pairwise_singleton _ _, fun x hx y hy => ?_⟩
  have h1 := cB_mem.1 hx
  obtain rfl := List.mem_singleton.1 hy
  exact .inr ⟨h1.1, .inr ⟨h1.2.1, h1.2.2.2⟩⟩
theorem cA_pw (f lo w : Nat) : ∀ s, List.Pairwise ltK (cA f lo w s)
 | 0 => List.Pairwise.nil
 |s + 1 => by
  rw [cA, List.pairwise_append]
  refine ⟨cA_pw f lo w s, cB_pw _ _ _ _, fun x hx y hy => ?_⟩
  have h1 := cA_mem.1 hx
  have h2 := cB_mem.1 hy
  exact .inr ⟨by omega, .inl (by omega)⟩
theorem cF_pw (N : List Lk) (lo w : Nat) : ∀ k, List.Pairwise ltK (cF N lo w k)
 | 0 => List.Pairwise.nil
 |k + 1 => by
  rw [cF, List.pairwise_append]
  refine ⟨cF_pw N lo w k, ?_, fun x hx y hy => ?_⟩
  ·split
   ·exact cA_pw _ _ _ _
   ·exact List.Pairwise.nil
  ·have h1 := cF_mem.1 hx
   split at hy
   ·have h2 := cA_mem.1 hy
    exact .inl (by omega)
   ·exact absurd hy List.not_mem_nil
theorem wy_pos {N : List Lk} (h : okN N) {n d : Nat} {x : Lk} (hx : nwK N x) : 1 ≤ (wyA N n d x).2 := Nat.mul_pos (rtA_le h hx.f).2.1 (Nat.le_trans (by decide) hx.b.1)
theorem bt_fle {N : List Lk} {n d : Nat} {x y : Lk} : btL N n d x y ↔ ¬ fle (wyA N n d y) (wyA N n d x) := Nat.not_le.symm
theorem bsT_spec {N : List Lk} (h : okN N) {n d : Nat} : ∀ (r : List Lk) (z : Lk), nwK N z → (∀ x, x ∈ r → nwK N x) → List.Pairwise ltK (z :: r) →
  bsT N n d z r ∈ z :: r ∧ ∀ x, x ∈ z :: r → fle (wyA N n d (bsT N n d z r)) (wyA N n d x) ∧ (fle (wyA N n d x) (wyA N n d (bsT N n d z r)) → ¬ ltK x (bsT N n d z r))
 | [], z, _, _, _ => ⟨List.mem_singleton.2 rfl, fun x hx => by
  obtain rfl := List.mem_singleton.1 hx
  exact ⟨fle_rfl _, fun _ k => ltK_as k k⟩⟩
 |x :: r, z, hz, hr, hp => by
  have hx := hr x (List.mem_cons_self ..)
  have hr2 : ∀ y, y ∈ r → nwK N y := fun y hy => hr y (List.mem_cons_of_mem _ hy)
  have hp1 := List.pairwise_cons.1 hp
  have hp2 := List.pairwise_cons.1 hp1.2
  rw [bsT]
  by_cases hb : btL N n d x z
  ·rw [if_pos hb]
   obtain ⟨m, s⟩ := bsT_spec h r x hx hr2 hp1.2
   refine ⟨List.mem_cons_of_mem _ m, fun y hy => ?_⟩
   rcases List.mem_cons.1 hy with rfl | hy
   ·have h1 := (s x (List.mem_cons_self ..)).1
    have h2 := bt_fle.1 hb
    have h3 : fle (wyA N n d x) (wyA N n d y) := (fle_tot _ _).resolve_right h2
    exact ⟨fle_tr (wy_pos h hx) h1 h3, fun k => absurd (fle_tr (wy_pos h (bsT_ok hr2 hx)) k h1) h2⟩
   ·exact s y hy
  ·rw [if_neg hb]
   obtain ⟨m, s⟩ := bsT_spec h r z hz hr2 (List.pairwise_cons.2 ⟨fun y hy => hp1.1 y (List.mem_cons_of_mem _ hy), hp2.2⟩)
   have h2 : fle (wyA N n d z) (wyA N n d x) := Classical.not_not.1 fun k => hb (bt_fle.2 k)
   have hs := s z (List.mem_cons_self ..)
   refine ⟨?_, fun y hy => ?_⟩
   ·rcases List.mem_cons.1 m with e | m
    ·rw [e]; exact List.mem_cons_self ..
    ·exact List.mem_cons_of_mem _ (List.mem_cons_of_mem _ m)
   ·rcases List.mem_cons.1 hy with rfl | hy
    ·exact hs
    ·rcases List.mem_cons.1 hy with rfl | hy
     ·refine ⟨fle_tr (wy_pos h hz) hs.1 h2, fun k => ?_⟩
      have k2 := hs.2 (fle_tr (wy_pos h hx) h2 k)
      have k3 := hp1.1 y (List.mem_cons_self ..)
      rcases List.mem_cons.1 m with e | m
      ·rw [e]; exact ltK_as k3
      ·exact absurd (hp1.1 _ (List.mem_cons_of_mem _ m)) k2
     ·exact s y (List.mem_cons_of_mem _ hy)
theorem cF_head (N : List Lk) {lo w : Nat} (hw : 1 ≤ w) : ∀ k, ∃ r, cF N lo w (k + 1) = (0, lo, lo) :: r := fun k => by
 obtain ⟨v, rfl⟩ : ∃ v, w = v + 1 := ⟨w - 1, by omega⟩
 have hB : ∀ j, ∃ r, cB 0 lo lo (j + 1) = (0, lo, lo) :: r := fun j => by
  induction j with
  |zero => exact ⟨[], rfl⟩
  |succ j ih => obtain ⟨r, e⟩ := ih; exact ⟨r ++ [(0, lo, lo + (j + 1))], by rw [cB, e]; rfl⟩
 have hA : ∀ s, ∃ r, cA 0 lo (v + 1) (s + 1) = (0, lo, lo) :: r := fun s => by
  induction s with
  |zero => obtain ⟨r, e⟩ := hB v; exact ⟨r, by rw [cA]; exact e⟩
  |succ s ih => obtain ⟨r, e⟩ := ih; exact ⟨r ++ cB 0 (lo + (s + 1)) lo (v + 1), by rw [cA, e]; rfl⟩
 induction k with
 |zero =>
  obtain ⟨r, e⟩ := hA v
  refine ⟨r, ?_⟩
  show [] ++ (if (tr N 0).length ≤ 2 then cA 0 lo (v + 1) (v + 1) else []) = _
  rw [tr_zero, if_pos (show ([] : List (Nat × Nat)).length ≤ 2 by decide), List.nil_append, e]
 |succ k ih => obtain ⟨r, e⟩ := ih; exact ⟨_, by rw [cF, e]; rfl⟩
def adZ (N : List Lk) (n d lo hi : Nat) : Lk := bsT N n d (0, lo, lo) (cF N lo (hi + 1 - lo) (N.length + 1))
theorem adZ_spec {N : List Lk} (h : okN N) {n d lo hi : Nat} (hlo : 4 ≤ lo) (hle : lo ≤ hi) (hhi : hi ≤ 60) : adZ N n d lo hi ∈ cF N lo (hi + 1 - lo) (N.length + 1) ∧ ∀ x, x ∈ cF N lo (hi + 1 - lo) (N.length + 1) →
  fle (wyA N n d (adZ N n d lo hi)) (wyA N n d x) ∧ (fle (wyA N n d x) (wyA N n d (adZ N n d lo hi)) → ¬ ltK x (adZ N n d lo hi)) := by
 obtain ⟨r, e⟩ := cF_head N (lo := lo) (w := hi + 1 - lo) (by omega) N.length
 have hn := cF_nwK (N := N) (lo := lo) (w := hi + 1 - lo) (k := N.length + 1) (Nat.le_refl _) hlo (by omega)
 have hp := cF_pw N lo (hi + 1 - lo) (N.length + 1)
 unfold adZ
 rw [e] at hn hp ⊢
 rw [bsT, if_neg (bt_irr N n d _)]
 exact bsT_spec h r (0, lo, lo) (hn _ (List.mem_cons_self ..)) (fun x hx => hn x (List.mem_cons_of_mem _ hx)) hp
end
end Go.Abs.Seat

/-! A wider range: changes, plain. -/
namespace Go.Abs.Seat
noncomputable section
open Go Go.Abs Go.Proofs.Tryz
set_option maxRecDepth 100000
set_option maxHeartbeats 40000000
attribute [local irreducible] IntKind.wrap pEq

theorem fstO_is {α : Type} {f : Nat → Option α} : ∀ {n k : Nat}, (∃ x, fstO f k n = some x) ↔ ∃ j x, k ≤ j ∧ j < k + n ∧ f j = some x
 | 0, k => ⟨fun ⟨_, h⟩ => (by cases h), fun ⟨j, _, h1, h2, _⟩ => by omega⟩
 |n + 1, k => by
  rw [fstO]
  cases e : f k with
  |some y => exact ⟨fun _ => ⟨k, y, Nat.le_refl _, by omega, e⟩, fun _ => ⟨y, rfl⟩⟩
  |none =>
   show (∃ x, fstO f (k + 1) n = some x) ↔ _
   rw [fstO_is]
   constructor
   ·rintro ⟨j, x, h1, h2, h3⟩; exact ⟨j, x, by omega, by omega, h3⟩
   ·rintro ⟨j, x, h1, h2, h3⟩
    by_cases ej : j = k
    ·subst ej; rw [e] at h3; cases h3
    ·exact ⟨j, x, by omega, by omega, h3⟩
theorem fstO_mono {α : Type} {f g : Nat → Option α} {k n k2 n2 : Nat} (h1 : k2 ≤ k) (h2 : k + n ≤ k2 + n2) (h : ∀ j, k ≤ j → j < k + n → (∃ x, f j = some x) → ∃ x, g j = some x) (hx : ∃ x, fstO f k n = some x) : ∃ x, fstO g k2 n2 = some x := by
 obtain ⟨j, x, q1, q2, q3⟩ := fstO_is.1 hx
 obtain ⟨y, q4⟩ := h j q1 q2 ⟨x, q3⟩
 exact fstO_is.2 ⟨j, y, by omega, by omega, q4⟩
theorem srS_mono {g g2 : List Lk → Nat → Option (List Lk)} {N : List Lk} {lo hi lo2 hi2 : Nat} (h1 : lo2 ≤ lo) (hle : lo ≤ hi) (h2 : hi ≤ hi2) (hg : ∀ now fr, (∃ x, g now fr = some x) → ∃ x, g2 now fr = some x) (now : List Lk) (fr : Nat) (hx : ∃ x, srS g N lo hi now fr = some x) : ∃ x, srS g2 N lo2 hi2 now fr = some x := by
 unfold srS at hx ⊢
 refine fstO_mono (Nat.le_refl _) (Nat.le_refl _) (fun i _ _ hi => ?_) hx
 refine fstO_mono h1 (by omega) (fun a _ _ ha => ?_) hi
 refine fstO_mono h1 (by omega) (fun b _ _ hb => ?_) ha
 obtain ⟨x, hb⟩ := hb
 unfold stC at hb ⊢
 split at hb
 ·cases hb
 ·rename_i hne
  rw [if_neg hne]
  cases e : g (chN now i a b) (i + 1) with
  |none => rw [e] at hb; cases hb
  |some y =>
   obtain ⟨z, hz⟩ := hg _ _ ⟨y, e⟩
   exact ⟨_, by rw [hz]; rfl⟩
theorem chR_mono {N : List Lk} {H : List Nat} {lo hi lo2 hi2 hand : Nat} {t : Nat × Nat} (h1 : lo2 ≤ lo) (hle : lo ≤ hi) (h2 : hi ≤ hi2) {l : List Lk} (hl : chR N H lo hi hand t = some l) : ∃ m, chR N H lo2 hi2 hand t = some m ∧ m.length ≤ l.length := by
 have k1 := srS_len (sr0_len (N := N) (H := H) (hand := hand) (t := t)) (N := N) (lo := lo) (hi := hi)
 have k2 := srS_len k1 (N := N) (lo := lo) (hi := hi)
 have k3 := srS_len (sr0_len (N := N) (H := H) (hand := hand) (t := t)) (N := N) (lo := lo2) (hi := hi2)
 have k4 := srS_len k3 (N := N) (lo := lo2) (hi := hi2)
 have m1 := srS_mono (N := N) h1 hle h2 (g := sr0 N H hand t) (g2 := sr0 N H hand t) (fun _ _ h => h)
 have m2 := srS_mono (N := N) h1 hle h2 m1
 unfold chR at hl ⊢
 cases e0 : sr0 N H hand t N 0 with
 |some x =>
  rw [e0] at hl
  injection hl with hl; subst hl
  exact ⟨x, rfl, Nat.le_refl _⟩
 |none =>
  rw [e0] at hl
  cases f1 : srS (sr0 N H hand t) N lo2 hi2 N 0 with
  |some y =>
   refine ⟨y, rfl, ?_⟩
   rw [k3 _ _ _ f1]
   cases e1 : srS (sr0 N H hand t) N lo hi N 0 with
   |some x => rw [e1] at hl; cases hl; rw [k1 _ _ _ e1]; exact Nat.le_refl _
   |none => rw [e1] at hl; rw [k2 _ _ _ hl]; exact Nat.le_succ _
  |none =>
   cases e1 : srS (sr0 N H hand t) N lo hi N 0 with
   |some x =>
    obtain ⟨y, hy⟩ := m1 N 0 ⟨x, e1⟩
    rw [f1] at hy; cases hy
   |none =>
    rw [e1] at hl
    obtain ⟨y, hy⟩ := m2 N 0 ⟨l, hl⟩
    exact ⟨y, hy, by rw [k4 _ _ _ hy, k2 _ _ _ hl]; exact Nat.le_refl _⟩
theorem wide_pure (a b : Int) {x : Bool} (p : Pure prog 42 [iv a, iv b] (.bool x)) : Pure prog 49 [iv a, iv b] (.bool (x && decide (IntKind.i64.wrap (b - a) ≤ 10))) := by
 cases x
 all_goals
  refine pure_sym hE rfl (by repeat' (first | exact trivial | assumption | exact flat_no _ | exact (fun _ h => nomatch h) | apply And.intro)) (by repeat' (first | exact trivial | assumption | exact flat_no _ | exact (fun _ h => nomatch h) | apply And.intro)) fun S q pc hS hq hC hE => ?_
  conv => whnf
  repeat ((first
   |refine sym_pure hC (p) ?_
   |refine sym_drawn hS (by kernel_rfl) ?_
   |refine sym_eq hq true (eqBool_same _ _) ?_
   |rw [beq_self_eq_true]
   |rw [bne_self_eq_false]); conv => whnf)
  exact ⟨_, rfl, Wk.refl _⟩
end
end Go.Abs.Seat
