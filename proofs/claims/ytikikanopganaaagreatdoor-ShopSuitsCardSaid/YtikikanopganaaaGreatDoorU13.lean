/-
  The document's changes and the program's are the same: plain.
-/
import Derived.Test.YtikikanopganaaaGreatDoorB32
/-! The document's changes and the program's are the same: plain. -/
namespace Go.Abs.Seat
noncomputable section
open Go Go.Abs Go.Proofs.Tryz
set_option maxRecDepth 100000
set_option maxHeartbeats 4000000

def fL (f : Lk → Option (List Lk)) : List Lk → Option (List Lk)
 | [] => none
 |x :: r => orE (f x) (fL f r)
theorem fL_app (f : Lk → Option (List Lk)) : ∀ l r, fL f (l ++ r) = orE (fL f l) (fL f r)
 | [], _ => rfl
 |x :: l, r => by rw [List.cons_append, fL, fL, fL_app f l r, orE_assoc]
theorem orE_no {α : Type} (a : Option α) : orE a none = a := by cases a <;> rfl
theorem fL_none {f : Lk → Option (List Lk)} : ∀ {l : List Lk}, (∀ x, x ∈ l → f x = none) → fL f l = none
 | [], _ => rfl
 |x :: l, h => by rw [fL, h x (List.mem_cons_self ..), fL_none fun y hy => h y (List.mem_cons_of_mem _ hy)]; rfl
theorem fstO_snoc {α : Type} (f : Nat → Option α) : ∀ n k, fstO f k (n + 1) = orE (fstO f k n) (f (k + n))
 | 0, k => by rw [fstO, fstO, fstO]; exact orE_no _
 |n + 1, k => by rw [fstO, fstO_snoc f n (k + 1), ← orE_assoc, show k + 1 + n = k + (n + 1) by omega]; rfl
theorem fstO_split {α : Type} (f : Nat → Option α) (m : Nat) : ∀ n k, fstO f k (m + n) = orE (fstO f k m) (fstO f (k + m) n)
 | 0, k => (orE_no _).symm
 |n + 1, k => by rw [← Nat.add_assoc, fstO_snoc, fstO_split f m n, fstO_snoc f n (k + m), orE_assoc, Nat.add_assoc]
theorem fstO_cong {α : Type} {f g : Nat → Option α} : ∀ {n k : Nat}, (∀ j, k ≤ j → j < k + n → f j = g j) → fstO f k n = fstO g k n
 | 0, _, _ => rfl
 |n + 1, k, h => by
  rw [fstO, fstO, h k (Nat.le_refl _) (by omega), fstO_cong fun j h1 h2 => h j (by omega) (by omega)]
theorem fstO_none {α : Type} {f : Nat → Option α} : ∀ {n k : Nat}, (∀ j, k ≤ j → j < k + n → f j = none) → fstO f k n = none
 | 0, _, _ => rfl
 |n + 1, k, h => by rw [fstO, h k (Nat.le_refl _) (by omega), fstO_none fun j h1 h2 => h j (by omega) (by omega)]; rfl
theorem orE_map {α β : Type} (h : α → β) (a b : Option α) : (orE a b).map h = orE (a.map h) (b.map h) := by cases a <;> rfl
theorem fstO_map {α β : Type} (h : α → β) (f : Nat → Option α) : ∀ n k, (fstO f k n).map h = fstO (fun j => (f j).map h) k n
 | 0, _ => rfl
 |n + 1, k => by rw [fstO, fstO, orE_map, fstO_map h f n]
theorem fstO_list (f : Lk → Option (List Lk)) (l : List Lk) : ∀ n k, k + n = l.length → fstO (fun i => f (gN l i)) k n = fL f (l.drop k)
 | 0, k, h => by rw [List.drop_eq_nil_of_le (by omega)]; rfl
 |n + 1, k, h => by rw [fstO, fstO_list f l n (k + 1) (by omega), drop_gN l (show k < l.length by omega), fL]
theorem fL_B (f : Lk → Option (List Lk)) (N : List Lk) (i a lo : Nat) : ∀ j, fL f (cgB N i a lo j) = fstO (fun b => if (gN N i).2 = (a, b) then none else f (i, a, b)) lo j
 | 0 => rfl
 |j + 1 => by
  rw [cgB, fL_app, fL_B f N i a lo j, fstO_snoc]
  by_cases h : (gN N i).2 = (a, lo + j)
  ·rw [if_pos h, if_pos h]; rfl
  ·rw [if_neg h, if_neg h, fL, fL, orE_no]
theorem fL_A (f : Lk → Option (List Lk)) (N : List Lk) (i lo w : Nat) : ∀ s, fL f (cgA N i lo w s) = fstO (fun a => fstO (fun b => if (gN N i).2 = (a, b) then none else f (i, a, b)) lo w) lo s
 | 0 => rfl
 |s + 1 => by rw [cgA, fL_app, fL_A f N i lo w s, fL_B, fstO_snoc]
theorem fL_F (f : Lk → Option (List Lk)) (N : List Lk) (lo w : Nat) : ∀ k, fL f (cgF N lo w k) = fstO (fun i => fstO (fun a => fstO (fun b => if (gN N i).2 = (a, b) then none else f (i, a, b)) lo w) lo w) 0 k
 | 0 => rfl
 |k + 1 => by rw [cgF, fL_app, fL_F f N lo w k, fL_A, fstO_snoc, Nat.zero_add]
theorem pw_all {R : Lk → Lk → Prop} : ∀ {l : List Lk}, (∀ x, x ∈ l → ∀ y, y ∈ l → R x y) → List.Pairwise R l
 | [], _ => List.Pairwise.nil
 |x :: _, h => List.pairwise_cons.2 ⟨fun y hy => h x (List.mem_cons_self ..) y (List.mem_cons_of_mem _ hy), pw_all fun y hy z hz => h y (List.mem_cons_of_mem _ hy) z (List.mem_cons_of_mem _ hz)⟩
theorem cgF_pw (N : List Lk) (lo w : Nat) : ∀ k, List.Pairwise (fun x y : Lk => x.1 ≤ y.1) (cgF N lo w k)
 | 0 => List.Pairwise.nil
 |k + 1 => by
  rw [cgF, List.pairwise_append]
  refine ⟨cgF_pw N lo w k, ?_, fun x hx y hy => ?_⟩
  ·refine pw_all (fun x hx y hy => ?_)
   rw [(cgA_mem.1 hx).1, (cgA_mem.1 hy).1]
   exact Nat.le_refl _
  ·have h1 := (cgF_mem.1 hx).1
   have h2 := (cgA_mem.1 hy).1
   omega
theorem pw_take {l : List Lk} (h : List.Pairwise (fun x y : Lk => x.1 ≤ y.1) l) {i : Nat} (hi : i < l.length) : ∀ x, x ∈ l.take (i + 1) → x.1 ≤ (gN l i).1 := by
 intro x hx
 obtain ⟨j, hj, e⟩ := List.getElem_of_mem hx
 rw [List.length_take] at hj
 have e1 : x = gN l j := by rw [← e, List.getElem_take]; simp [gN, List.getD, show j < l.length by omega]
 rw [e1]
 by_cases ej : j = i
 ·rw [ej]; exact Nat.le_refl _
 ·have := List.pairwise_iff_getElem.1 h j i (by omega) hi (by omega)
  rw [show gN l j = l[j] by simp [gN, List.getD, show j < l.length by omega], show gN l i = l[i] by simp [gN, List.getD, hi]]
  exact this
theorem chD_chR (N : List Lk) (H : List Nat) (lo hi hand : Nat) (t : Nat × Nat) : chD N H hand t (cgF N lo (hi + 1 - lo) N.length) = chR N H lo hi hand t := by
 unfold chD chR
 generalize hw : hi + 1 - lo = w
 refine congrArg (orE _) ?_
 have hp := cgF_pw N lo w N.length
 have f1 : fstO (d1F N H hand t (cgF N lo w N.length)) 0 (cgF N lo w N.length).length = srS (sr0 N H hand t) N lo hi N 0 := by
  have := fstO_list (fun c => if suP N (chX N c) H hand t then some [c] else none) (cgF N lo w N.length) _ 0 (Nat.zero_add _)
  rw [List.drop_zero, fL_F] at this
  refine this.trans ?_
  unfold srS
  rw [hw, Nat.sub_zero]
  refine fstO_cong fun i _ _ => fstO_cong fun a _ _ => fstO_cong fun b _ _ => ?_
  unfold stC sr0
  by_cases h1 : (gN N i).2 = (a, b)
  ·rw [if_pos h1, if_pos h1]
  ·rw [if_neg h1, if_neg h1]
   by_cases h2 : suP N (chN N i a b) H hand t
   ·rw [if_pos h2, if_pos h2]; rfl
   ·rw [if_neg h2, if_neg h2]; rfl
 have g2 : ∀ c : Lk, c.1 < N.length → fL (fun c2 => if c.1 < c2.1 ∧ suP N (chX (chX N c) c2) H hand t then some [c, c2] else none) (cgF N lo w N.length) = (srS (sr0 N H hand t) N lo hi (chX N c) (c.1 + 1)).map (c :: ·) := fun c hc => by
  rw [fL_F, show N.length = (c.1 + 1) + (N.length - (c.1 + 1)) by omega, fstO_split, fstO_none (k := 0) (n := c.1 + 1)]
  ·rw [orE_none, Nat.zero_add]
   unfold srS
   rw [hw, fstO_map]
   refine fstO_cong fun i hi1 _ => ?_
   rw [fstO_map]
   refine fstO_cong fun a _ _ => ?_
   rw [fstO_map]
   refine fstO_cong fun b _ _ => ?_
   unfold stC sr0
   by_cases h1 : (gN N i).2 = (a, b)
   ·rw [if_pos h1, if_pos h1]; rfl
   ·rw [if_neg h1, if_neg h1]
    by_cases h2 : suP N (chN (chX N c) i a b) H hand t
    ·rw [if_pos ⟨(show c.1 < i by omega), h2⟩, if_pos h2]; rfl
    ·rw [if_neg fun z => h2 z.2, if_neg h2]; rfl
  ·intro i _ hi2
   refine fstO_none fun a _ _ => fstO_none fun b _ _ => ?_
   split
   ·rfl
   ·exact if_neg fun z => absurd z.1 (show ¬ c.1 < i by omega)
 have f2 : fstO (d2F N H hand t (cgF N lo w N.length)) 0 (cgF N lo w N.length).length = srS (srS (sr0 N H hand t) N lo hi) N lo hi N 0 := by
  have e : fstO (d2F N H hand t (cgF N lo w N.length)) 0 (cgF N lo w N.length).length = fstO (fun i => (fun c : Lk => (srS (sr0 N H hand t) N lo hi (chX N c) (c.1 + 1)).map (c :: ·)) (gN (cgF N lo w N.length) i)) 0 (cgF N lo w N.length).length := by
   refine fstO_cong fun i _ hi2 => ?_
   have hi3 : i < (cgF N lo w N.length).length := by omega
   have hc := (cgF_mem.1 (gN_mem _ hi3)).1
   have k1 := fstO_list (fun c2 => if (gN (cgF N lo w N.length) i).1 < c2.1 ∧ suP N (chX (chX N (gN (cgF N lo w N.length) i)) c2) H hand t then some [gN (cgF N lo w N.length) i, c2] else none) (cgF N lo w N.length) ((cgF N lo w N.length).length - (i + 1)) (i + 1) (by omega)
   refine Eq.trans k1 ?_
   have k2 := g2 (gN (cgF N lo w N.length) i) hc
   rw [← List.take_append_drop (i + 1) (cgF N lo w N.length), fL_app, fL_none (l := (cgF N lo w N.length).take (i + 1)), orE_none, List.take_append_drop] at k2
   ·exact k2
   ·intro x hx
    rw [List.take_append_drop]
    have := pw_take hp hi3 x hx
    exact if_neg fun z => absurd z.1 (by omega)
  rw [e]
  have := fstO_list (fun c : Lk => (srS (sr0 N H hand t) N lo hi (chX N c) (c.1 + 1)).map (c :: ·)) (cgF N lo w N.length) _ 0 (Nat.zero_add _)
  rw [List.drop_zero, fL_F] at this
  refine this.trans ?_
  unfold srS
  rw [hw, Nat.sub_zero]
  rfl
 rw [f1, f2]
end
end Go.Abs.Seat
