/-
  New links, as the document tells them.
-/
import Derived.Test.YtikikanopganaaaGreatDoorU11
import Derived.Test.YtikikanopganaaaGreatDoorB7
import Derived.Test.YtikikanopganaaaGreatDoorB9
/-! New links, as the document tells them. -/
namespace Go.Abs.Seat
noncomputable section
open Go Go.Abs Go.Proofs.Tryz
set_option maxRecDepth 100000
set_option maxHeartbeats 40000000
attribute [local irreducible] IntKind.wrap pEq

theorem rRange_pure (a b : Int) : Pure prog 42 [iv a, iv b] (.bool (decide ((tth a ∧ tth b) ∧ a ≤ b))) := by
 by_cases h1 : tth a
 ·have c1 : decide (tth a) = true := decide_eq_true h1
  by_cases h2 : tth b
  ·have c2 : decide (tth b) = true := decide_eq_true h2
   refine pure_sym hE rfl (by repeat' (first | exact trivial | assumption | exact flat_no _ | exact (fun _ h => nomatch h) | apply And.intro)) (by repeat' (first | exact trivial | assumption | exact flat_no _ | exact (fun _ h => nomatch h) | apply And.intro)) fun S q pc hS hq hC hE => ?_
   conv => whnf
   repeat ((first
    |refine ko_rT c1 ?_
    |refine ko_sF c1 ?_
    |refine plan_as (pick_t c1) ?_
    |refine bool_true c1 ?_
    |refine ko_rT c2 ?_
    |refine ko_sF c2 ?_
    |refine plan_as (pick_t c2) ?_
    |refine bool_true c2 ?_
    |refine ko_rT (gd_tt c1) ?_
    |refine ko_sF (gd_tt c1) ?_
    |refine plan_as (pick_t (gd_tt c1)) ?_
    |refine bool_true (gd_tt c1) ?_
    |refine ko_rT (gd_tt c2) ?_
    |refine ko_sF (gd_tt c2) ?_
    |refine plan_as (pick_t (gd_tt c2)) ?_
    |refine bool_true (gd_tt c2) ?_
    |refine sym_pure hC (rTeeth_pure a) ?_
    |refine sym_pure hC (rTeeth_pure b) ?_
    |refine sym_drawn hS (by kernel_rfl) ?_); conv => whnf)
   exact ⟨_, rfl, wkb (by simp [h1, h2])⟩
  ·have c2 : decide (tth b) = false := decide_eq_false h2
   refine pure_sym hE rfl (by repeat' (first | exact trivial | assumption | exact flat_no _ | exact (fun _ h => nomatch h) | apply And.intro)) (by repeat' (first | exact trivial | assumption | exact flat_no _ | exact (fun _ h => nomatch h) | apply And.intro)) fun S q pc hS hq hC hE => ?_
   conv => whnf
   repeat ((first
    |refine ko_rT c1 ?_
    |refine ko_sF c1 ?_
    |refine plan_as (pick_t c1) ?_
    |refine bool_true c1 ?_
    |refine ko_sT c2 ?_
    |refine ko_rF c2 ?_
    |refine plan_as (pick_f c2) ?_
    |refine bool_false c2 ?_
    |refine ko_rT (gd_tt c1) ?_
    |refine ko_sF (gd_tt c1) ?_
    |refine plan_as (pick_t (gd_tt c1)) ?_
    |refine bool_true (gd_tt c1) ?_
    |refine ko_sT (gd_tf c2) ?_
    |refine ko_rF (gd_tf c2) ?_
    |refine plan_as (pick_f (gd_tf c2)) ?_
    |refine bool_false (gd_tf c2) ?_
    |refine sym_pure hC (rTeeth_pure a) ?_
    |refine sym_pure hC (rTeeth_pure b) ?_
    |refine sym_drawn hS (by kernel_rfl) ?_); conv => whnf)
   exact ⟨_, rfl, wkb (by simp [h2])⟩
 ·have c1 : decide (tth a) = false := decide_eq_false h1
  refine pure_sym hE rfl (by repeat' (first | exact trivial | assumption | exact flat_no _ | exact (fun _ h => nomatch h) | apply And.intro)) (by repeat' (first | exact trivial | assumption | exact flat_no _ | exact (fun _ h => nomatch h) | apply And.intro)) fun S q pc hS hq hC hE => ?_
  conv => whnf
  repeat ((first
   |refine ko_sT c1 ?_
   |refine ko_rF c1 ?_
   |refine plan_as (pick_f c1) ?_
   |refine bool_false c1 ?_
   |refine ko_sT (gd_tf c1) ?_
   |refine ko_rF (gd_tf c1) ?_
   |refine plan_as (pick_f (gd_tf c1)) ?_
   |refine bool_false (gd_tf c1) ?_
   |refine sym_pure hC (rTeeth_pure a) ?_
   |refine sym_drawn hS (by kernel_rfl) ?_); conv => whnf)
  exact ⟨_, rfl, wkb (by simp [h1])⟩
def nwT (N : List Lk) (x : Lk) : List (Nat × Nat) := tr N x.1 ++ [x.2]
structure nwK (N : List Lk) (x : Lk) : Prop where
 f : x.1 ≤ N.length
 l : (tr N x.1).length ≤ 2
 a : tN x.2.1
 b : tN x.2.2
theorem allT_app {l : List (Nat × Nat)} {p : Nat × Nat} (hl : AllT tN l) (hp : tN p.1 ∧ tN p.2) : AllT tN (l ++ [p]) := by
 induction l with
 |nil => exact ⟨hp, trivial⟩
 |cons q r ih => exact ⟨hl.1, ih hl.2⟩
theorem nwK.tv {N : List Lk} (h : okN N) {x : Lk} (hx : nwK N x) : TV (pv (zp (nwT N x))) (nwT N x).length (redF ((rtA N x.1).1 * x.2.1) ((rtA N x.1).2 * x.2.2)).1 (redF ((rtA N x.1).1 * x.2.1) ((rtA N x.1).2 * x.2.2)).2 := by
 have e := xP_app x.2 (tr N x.1)
 have hl : (nwT N x).length = (tr N x.1).length + 1 := by unfold nwT; rw [List.length_append]; rfl
 have := tv_zp (tq := tN) (fun _ h => h) (t := nwT N x) (by rw [hl]; have := hx.l; omega) (allT_app (h.all x.1 x.1 (Nat.le_refl _) hx.f) ⟨hx.a, hx.b⟩)
 unfold nwT at this
 rw [e.1, e.2] at this
 exact this
theorem ord_lt {a b : Nat} : decide (ordI (Int.ofNat a) (Int.ofNat b) < 0) = decide (a < b) := by
 unfold ordI
 by_cases h : Int.ofNat a < Int.ofNat b
 ·rw [if_pos h, decide_eq_true (Int.ofNat_lt.1 h)]; rfl
 ·rw [if_neg h, decide_eq_false fun z => h (Int.ofNat_lt.2 z)]
  split <;> rfl
theorem near_bt {N : List Lk} (h : okN N) {n d : Nat} {x y : Lk} (hx : nwK N x) (hy : nwK N y) : decide (ordI (Int.ofNat (farN n d (redF ((rtA N x.1).1 * x.2.1) ((rtA N x.1).2 * x.2.2)).1 (redF ((rtA N x.1).1 * x.2.1) ((rtA N x.1).2 * x.2.2)).2 (redF ((rtA N y.1).1 * y.2.1) ((rtA N y.1).2 * y.2.2)).2)) (Int.ofNat (farN n d (redF ((rtA N y.1).1 * y.2.1) ((rtA N y.1).2 * y.2.2)).1 (redF ((rtA N y.1).1 * y.2.1) ((rtA N y.1).2 * y.2.2)).2 (redF ((rtA N x.1).1 * x.2.1) ((rtA N x.1).2 * x.2.2)).2)) < 0) = decide (btL N n d x y) := by
 rw [ord_lt]
 have p1 : 1 ≤ (rtA N x.1).2 * x.2.2 := Nat.mul_pos (rtA_le h hx.f).2.1 (Nat.le_trans (by decide) hx.b.1)
 have p2 : 1 ≤ (rtA N y.1).2 * y.2.2 := Nat.mul_pos (rtA_le h hy.f).2.1 (Nat.le_trans (by decide) hy.b.1)
 have := near_fle (N := n) (D := d) (x := (rtA N y.1).1 * y.2.1) (z := (rtA N x.1).1 * x.2.1) p2 p1
 refine decide_eq_decide.2 ?_
 have e : btL N n d x y ↔ ¬ fle (wyA N n d y) (wyA N n d x) := Nat.not_le.symm
 rw [e]
 exact Nat.not_le.symm.trans (not_congr this)
theorem lenIs_fl2 (l : List (Nat × Nat)) (p : Nat × Nat) {k : Nat} (hk : k = (zp (l ++ [p])).length * 2) : lenIs (flat (zp l) ++ [nv p.1, nv p.2]) k = true := by
 rw [← flz_app, hk]
 exact lenIs_flz _
theorem wk_tapp2 {t : List (Nat × Nat)} {p p2 : Nat × Nat} {k c : Nat} (hk : k = (zp (t ++ [p] ++ [p2])).length) : Wk (.lst (flat (zp t) ++ [nv p.1, nv p.2] ++ [nv p2.1, nv p2.2]) k (.ch c)) (pv (zp (t ++ [p] ++ [p2]))) := by
 rw [← flz_app, ← flz_app]
 exact wk_own hk
theorem rNew_pure {N : List Lk} {H : List Nat} (h : pcN N H) {x : Lk} (hx : nwK N x) : Pure prog 46 [.agg [nkA N, nl (zl H)], lkV x] (pv (zp (nwT N x))) := by
 have lN := lks_no (cL N)
 have lM := ivs_no (zl H)
 obtain ⟨f, a, b⟩ := x
 have hf : f ≤ N.length := hx.f
 cases f with
 |zero =>
  have p0 := rTrainA_pure h (a := 0) (Nat.zero_le _)
  have p0 : Pure prog 29 [.agg [nkA N, nl (zl H)], iv 0] .nils := p0
  refine pure_sym hE rfl (by repeat' (first | exact trivial | assumption | exact flat_no _ | exact (fun _ h => nomatch h) | apply And.intro)) (by repeat' (first | exact trivial | assumption | exact flat_no _ | exact (fun _ h => nomatch h) | apply And.intro)) fun S q pc hS hq hC hE => ?_
  conv => whnf
  refine sym_pure hC (p0) ?_
  conv => whnf
  refine sym_drawn hS (by kernel_rfl) ?_
  conv => whnf
  exact ⟨_, rfl, Wk.wk _⟩
 |succ i =>
  have hi : i < N.length := hf
  have h3 := h.ok.wf i hi
  have hl2 : (tr N (i + 1)).length ≤ 2 := hx.l
  have l3 := lk3 (L := cL N) (N := N) (by rw [← cL_len N, List.take_length]) (by rw [cL_len]; exact Nat.le_refl _) (by rw [cL_len]; have := h.l5; omega) hi
  have pt := rTrainA_pure h (a := (gN N i).1) (by omega)
  have lT := tvA_no (tr N (gN N i).1)
  show Pure prog _ [_, .agg [nv (i + 1), nv a, nv b]] (pv (zp (tr N (i + 1) ++ [(a, b)])))
  rw [tr_succ h.ok.wf hi] at hl2 ⊢
  have h5 := h.l5
  generalize gN N i = y at *
  obtain ⟨f, c, d⟩ := y
  have pt : Pure prog 29 [.agg [nkA N, nl (zl H)], nv f] (tvA (tr N f)) := pt
  have hl2 : (tr N f ++ [(c, d)]).length ≤ 2 := hl2
  rw [List.length_append] at hl2
  show Pure prog _ [_, .agg [nv (i + 1), nv a, nv b]] (pv (zp (tr N f ++ [(c, d)] ++ [(a, b)])))
  have lT : Live noL (tvA (tr N f)) := lT
  have l3 : takeN 3 (dropN ((IntKind.i64.wrap (Int.ofNat (i + 1) - 1)).toNat * 3) (lks (cL N))) = some [nv f, nv c, nv d] := l3
  generalize tr N f = t at *
  cases t with
  |nil =>
   refine pure_sym hE rfl (by repeat' (first | exact trivial | assumption | exact flat_no _ | exact (fun _ h => nomatch h) | apply And.intro)) (by repeat' (first | exact trivial | assumption | exact flat_no _ | exact (fun _ h => nomatch h) | apply And.intro)) fun S q pc hS hq hC hE => ?_
   conv => whnf
   refine sym_call hC ?_
   conv => whnf
   refine sym_inline hE hS ?_
   conv => whnf
   refine bool_true (lkR7 hi (by omega)) ?_
   conv => whnf
   refine plan_as (takP l3) ?_
   conv => whnf
   refine sym_pure hC (pt) ?_
   conv => whnf
   refine sym_drawn hS (by kernel_rfl) ?_
   conv => whnf
   refine sym_drawn hS (by kernel_rfl) ?_
   conv => whnf
   exact ⟨_, rfl, Wk.wk _⟩
  |cons w0 r =>
   have pt : Pure prog 29 [.agg [nkA N, nl (zl H)], nv f] (pv (zp (w0 :: r))) := pt
   have lq := flat_no (zp (w0 :: r))
   have hz := zp_len r
   have hlen : r.length + 1 + 1 ≤ 2 := hl2
   refine pure_sym hE rfl (by repeat' (first | exact trivial | assumption | exact flat_no _ | exact (fun _ h => nomatch h) | apply And.intro)) (by repeat' (first | exact trivial | assumption | exact flat_no _ | exact (fun _ h => nomatch h) | apply And.intro)) fun S q pc hS hq hC hE => ?_
   conv => whnf
   refine sym_call hC ?_
   conv => whnf
   refine sym_inline hE hS ?_
   conv => whnf
   refine bool_true (lkR7 hi (by omega)) ?_
   conv => whnf
   refine plan_as (takP l3) ?_
   conv => whnf
   refine sym_pure hC (pt) ?_
   conv => whnf
   refine plan_as (pSrc_eq (e := 64) (ys := flat (zp (w0 :: r))) (m := (zp (w0 :: r)).length) (l := flat (zp (w0 :: r))) (by kernel_rfl) rfl (takeN_flat (zp (w0 :: r)))) ?_
   conv => whnf
   refine bool_true (allCells_flat (zp (w0 :: r))) ?_
   conv => whnf
   refine bool_true (decide_eq_true (show ((zp r).length + 1) * 16 ≤ 140737488355328 by omega)) ?_
   conv => whnf
   refine bool_true (decide_eq_true (show (zp r).length + 1 ≤ 9223372036854775807 by omega)) ?_
   conv => whnf
   refine bool_true (decide_eq_true (show ((zp r).length + 1 + (0 + 1)) * 16 ≤ 140737488355328 by omega)) ?_
   conv => whnf
   refine bool_true (decide_eq_true (show (zp r).length + 1 + (0 + 1) ≤ 9223372036854775807 by omega)) ?_
   conv => whnf
   refine bool_true (lenIs_flz (w0 :: r)) ?_
   conv => whnf
   refine bool_true (decide_eq_true rfl) ?_
   conv => whnf
   refine sym_drawn hS (by kernel_rfl) ?_
   conv => whnf
   refine bool_true (decide_eq_true (show ((zp r).length + 1 + (0 + 1) + (0 + 1)) * 16 ≤ 140737488355328 by omega)) ?_
   conv => whnf
   refine bool_true (decide_eq_true (show (zp r).length + 1 + (0 + 1) + (0 + 1) ≤ 9223372036854775807 by omega)) ?_
   conv => whnf
   refine bool_true (lenIs_fl2 (w0 :: r) (c, d) (k := ((zp r).length + 1 + (0 + 1)) * 2) (by rw [zp_len (w0 :: r ++ [(c, d)]), List.length_append]; show ((zp r).length + 1 + (0 + 1)) * 2 = (r.length + 1 + 1) * 2; omega)) ?_
   conv => whnf
   refine bool_true (decide_eq_true rfl) ?_
   conv => whnf
   refine sym_drawn hS (by kernel_rfl) ?_
   conv => whnf
   exact ⟨_, rfl, wk_tapp2 (t := w0 :: r) (p := (c, d)) (p2 := (a, b)) (by rw [zp_len, List.length_append, List.length_append]; show (zp r).length + 1 + (0 + 1) + (0 + 1) = r.length + 1 + 1 + 1; omega)⟩
end
end Go.Abs.Seat
