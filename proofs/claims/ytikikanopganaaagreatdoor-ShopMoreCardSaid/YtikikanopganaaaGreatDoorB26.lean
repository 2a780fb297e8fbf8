/-
  The best new link, as the document tells it.
-/
import Derived.Test.YtikikanopganaaaGreatDoorU12
/-! The best new link, as the document tells it. -/
namespace Go.Abs.Seat
noncomputable section
open Go Go.Abs Go.Proofs.Tryz
set_option maxRecDepth 100000
set_option maxHeartbeats 40000000
attribute [local irreducible] IntKind.wrap pEq

def bsT (N : List Lk) (n d : Nat) : Lk → List Lk → Lk
 |z, [] => z
 |z, x :: r => bsT N n d (if btL N n d x z then x else z) r
theorem bsT_app (N : List Lk) (n d : Nat) : ∀ (l : List Lk) (z : Lk) (r : List Lk), bsT N n d z (l ++ r) = bsT N n d (bsT N n d z l) r
 | [], _, _ => rfl
 |x :: l, z, r => by rw [List.cons_append, bsT, bsT, bsT_app N n d l]
theorem bsT_one (N : List Lk) (n d : Nat) (z : Lk) (l : List Lk) (x : Lk) : bsT N n d z (l ++ [x]) = if btL N n d x (bsT N n d z l) then x else bsT N n d z l := by
 rw [bsT_app]; rfl
theorem bsT_ok {N : List Lk} {n d : Nat} : ∀ {l : List Lk} {z : Lk}, (∀ x, x ∈ l → nwK N x) → nwK N z → nwK N (bsT N n d z l)
 | [], _, _, hz => hz
 |x :: l, z, h, hz => by
  rw [bsT]
  refine bsT_ok (fun y hy => h y (List.mem_cons_of_mem _ hy)) ?_
  split
  ·exact h x (List.mem_cons_self ..)
  ·exact hz
theorem bsN_bsT {N : List Lk} {n d : Nat} (x : Lk) (l : List Lk) : ∀ i, i ≤ l.length → bsN N n d (x :: l) (i + 1) = bsT N n d x (l.take i)
 | 0, _ => by rw [List.take_zero, bsN, if_pos (.inl rfl)]; rfl
 |i + 1, h => by
  have e : gN (x :: l) (i + 1) = gN l i := rfl
  rw [bsN, e, bsN_bsT x l i (by omega), take_gN l (show i < l.length by omega), bsT_one]
  by_cases hb : btL N n d (gN l i) (bsT N n d x (l.take i))
  ·rw [if_pos (.inr hb), if_pos hb]
  ·rw [if_neg (by rintro (z | z); exact absurd z (by omega); exact hb z), if_neg hb]
theorem bt_irr (N : List Lk) (n d : Nat) (x : Lk) : ¬ btL N n d x x := Nat.lt_irrefl _
theorem nwK_z {N : List Lk} {lo : Nat} (h : tN lo) : nwK N (0, lo, lo) := ⟨Nat.zero_le _, Nat.zero_le _, h, h⟩
theorem cF_nwK {N : List Lk} {lo w k : Nat} (hk : k ≤ N.length + 1) (hlo : 4 ≤ lo) (hw : lo + w ≤ 61) : ∀ x, x ∈ cF N lo w k → nwK N x := fun x hx => by
 have := cF_mem.1 hx
 exact ⟨by omega, this.2.1, ⟨by omega, by omega⟩, ⟨by omega, by omega⟩⟩
theorem best_same {N : List Lk} {n d lo w k : Nat} (hw : 1 ≤ w) (hk : 1 ≤ k) : bsN N n d (cF N lo w k) (cF N lo w k).length = bsT N n d (0, lo, lo) (cF N lo w k) := by
 have h1 : ∃ r, cF N lo w 1 = (0, lo, lo) :: r := by
  obtain ⟨v, rfl⟩ : ∃ v, w = v + 1 := ⟨w - 1, by omega⟩
  have hB : ∀ j, ∃ r, cB 0 lo lo (j + 1) = (0, lo, lo) :: r := fun j => by
   induction j with
   |zero => exact ⟨[], rfl⟩
   |succ j ih => obtain ⟨r, e⟩ := ih; exact ⟨r ++ [(0, lo, lo + (j + 1))], by rw [cB, e]; rfl⟩
  have hA : ∀ s, ∃ r, cA 0 lo (v + 1) (s + 1) = (0, lo, lo) :: r := fun s => by
   induction s with
   |zero => obtain ⟨r, e⟩ := hB v; exact ⟨r, by rw [cA]; exact e⟩
   |succ s ih => obtain ⟨r, e⟩ := ih; exact ⟨r ++ cB 0 (lo + (s + 1)) lo (v + 1), by rw [cA, e]; rfl⟩
  obtain ⟨r, e⟩ := hA v
  refine ⟨r, ?_⟩
  show [] ++ (if (tr N 0).length ≤ 2 then cA 0 lo (v + 1) (v + 1) else []) = _
  rw [tr_zero, if_pos (show ([] : List (Nat × Nat)).length ≤ 2 by decide), List.nil_append, e]
 have h2 : ∀ k, ∃ r, cF N lo w (k + 1) = (0, lo, lo) :: r := fun k => by
  induction k with
  |zero => exact h1
  |succ k ih => obtain ⟨r, e⟩ := ih; exact ⟨_, by rw [cF, e]; rfl⟩
 obtain ⟨j, rfl⟩ : ∃ j, k = j + 1 := ⟨k - 1, by omega⟩
 obtain ⟨r, e⟩ := h2 j
 rw [e, List.length_cons, bsN_bsT _ _ _ (Nat.le_refl _), List.take_length, bsT, if_neg (bt_irr N n d _)]
theorem rAdds_pure {N : List Lk} {H : List Nat} (h : pcN N H) {lo hi n d : Nat} (hlo : 4 ≤ lo) (hle : lo ≤ hi) (hhi : hi ≤ 60) (hn : n ≤ 50000) (hd : 1 ≤ d ∧ d ≤ 50000) :
  Pure prog 43 [.agg [nkA N, nl (zl H)], nv lo, nv hi, fv (Int.ofNat n) (Int.ofNat d)] (lkV (bsT N n d (0, lo, lo) (cF N lo (hi + 1 - lo) (N.length + 1)))) := by
 have lN := lks_no (cL N)
 have lM := ivs_no (zl H)
 have hw : 1 ≤ hi + 1 - lo ∧ hi + 1 - lo ≤ 57 ∧ lo + (hi + 1 - lo) = hi + 1 := by omega
 have h5 := h.l5
 generalize hi + 1 - lo = w at hw
 have hTa : ∀ k, k ≤ N.length → (Pure prog 29 [.agg [nkA N, nl (zl H)], nv k] .nils ∧ (tr N k).length = 0) ∨ Pure prog 29 [.agg [nkA N, nl (zl H)], nv k] (pv (zp (tr N k))) := fun k hk => by
  have p := rTrainA_pure h hk
  by_cases h1 : 1 ≤ k
  ·rw [tvA_pos h.ok.wf h1 hk] at p
   exact .inr p
  ·obtain rfl : k = 0 := by omega
   exact .inl ⟨p, rfl⟩
 refine pure_sym hE rfl (by repeat' (first | exact trivial | assumption | exact flat_no _ | exact (fun _ h => nomatch h) | apply And.intro)) (by repeat' (first | exact trivial | assumption | exact flat_no _ | exact (fun _ h => nomatch h) | apply And.intro)) fun S q pc hS hq hC hE => ?_
 conv => whnf
 refine sym_loopG hE hS (A := Nat × Lk) [1, 2, 4, 7, 8, 9] (fun (k, _) => [(10, nv k)]) (fun (_, z) => [(3, obC z)]) (fun _ => []) (fun (k, z) => k ≤ N.length + 1 ∧ z = bsT N n d (0, lo, lo) (cF N lo w k)) (fun (k, _) => N.length + 1 - k) (0, (0, lo, lo)) (Nat.le_of_ble_eq_true rfl) rfl (by refine ⟨rfl, rfl, rfl, rfl, rfl, rfl, 4, rfl, ?_, ?_⟩ <;> repeat' (first | exact trivial | exact rfl | exact ⟨_, rfl, WkV.refl _⟩ | exact ⟨_, rfl, WkV.own _ _ _⟩ | exact Nat.zero_le _ | exact bdl_no lN | exact bdl_no lM | exact Nat.le_of_ble_eq_true rfl | exact bdl_no (by assumption) | exact bdl_no (flat_no _) | exact bdl_no (ivs_no _) | exact bdl_no (svs_no _) | exact Nat.max_le.2 ⟨Nat.le_of_ble_eq_true rfl, bdl_no (ivs_no _)⟩ | exact Nat.max_le.2 ⟨Nat.le_of_ble_eq_true rfl, bdl_no (svs_no _)⟩ | apply And.intro)) ⟨Nat.zero_le _, rfl⟩ ?_
 rintro ⟨k, z⟩ ⟨hk, hz⟩ Q hQ
 obtain rfl : Q = 4 := hQ
 conv => whnf
 by_cases hk2 : k ≤ N.length
 ·refine bool_true (decide_eq_true (show Int.ofNat k ≤ (N.length : Int) from Int.ofNat_le.2 hk2)) ?_
  conv => whnf
  have hk61 : lo + w ≤ 61 := by omega
  have hcases : (Pure prog 29 [.agg [nkA N, nl (zl H)], nv k] .nils ∧ (tr N k).length ≤ 2) ∨ (Pure prog 29 [.agg [nkA N, nl (zl H)], nv k] (pv (zp (tr N k))) ∧ (tr N k).length ≤ 2) ∨ (Pure prog 29 [.agg [nkA N, nl (zl H)], nv k] (pv (zp (tr N k))) ∧ ¬ (tr N k).length ≤ 2) := by
   rcases hTa k hk2 with ⟨p, e⟩ | p
   ·exact .inl ⟨p, by omega⟩
   ·by_cases h2 : (tr N k).length ≤ 2
    ·exact .inr (.inl ⟨p, h2⟩)
    ·exact .inr (.inr ⟨p, h2⟩)
  have lT := flat_no (zp (tr N k))
  have hzT := zp_len (tr N k)
  have zK : nwK N z := by rw [hz]; exact bsT_ok (cF_nwK (by omega) hlo hk61) (nwK_z ⟨hlo, by omega⟩)
  refine Or.elim hcases (fun hA => ?_) fun hBC => Or.elim hBC (fun hA => ?_) fun hC3 => ?_
  ·obtain ⟨pT, hd3⟩ := hA
   have c3 : (true : Bool) = true := rfl
   refine sym_hideL fun K hK => ?_
   refine sym_loopG hE hS (A := Nat × Lk) [1, 2, 4, 7, 8, 9, 10] (fun (s, _) => [(11, nv (lo + s))]) (fun (_, y) => [(3, obC y)]) (fun _ => []) (fun (s, y) => s ≤ w ∧ y = bsT N n d z (cA k lo w s)) (fun (s, _) => w - s) (0, z) (Nat.le_of_ble_eq_true rfl) rfl (by refine ⟨rfl, rfl, rfl, rfl, rfl, rfl, 4, rfl, ?_, ?_⟩ <;> repeat' (first | exact trivial | exact rfl | exact ⟨_, rfl, WkV.refl _⟩ | exact ⟨_, rfl, WkV.own _ _ _⟩ | exact Nat.zero_le _ | exact bdl_no lN | exact bdl_no lM | exact Nat.le_of_ble_eq_true rfl | exact bdl_no (by assumption) | exact bdl_no (flat_no _) | exact bdl_no (ivs_no _) | exact bdl_no (svs_no _) | exact Nat.max_le.2 ⟨Nat.le_of_ble_eq_true rfl, bdl_no (ivs_no _)⟩ | exact Nat.max_le.2 ⟨Nat.le_of_ble_eq_true rfl, bdl_no (svs_no _)⟩ | apply And.intro)) ⟨Nat.zero_le _, rfl⟩ ?_
   rintro ⟨s, y⟩ ⟨hs, hy⟩ Q hQ
   obtain rfl : Q = 4 := hQ
   conv => whnf
   by_cases hs2 : s < w
   ·have c1 : decide (Int.ofNat (lo + s) ≤ Int.ofNat hi) = true := decide_eq_true (Int.ofNat_le.2 (by omega))
    have yK : nwK N y := by rw [hy]; exact bsT_ok (fun x hx => by have := cA_mem.1 hx; exact ⟨by omega, by rw [this.1]; exact hd3, ⟨by omega, by omega⟩, ⟨by omega, by omega⟩⟩) zK
    repeat ((first
     |refine ko_rT c1 ?_
     |refine ko_sF c1 ?_
     |refine plan_as (pick_t c1) ?_
     |refine bool_true c1 ?_
     |refine ko_rT c3 ?_
     |refine ko_sF c3 ?_
     |refine plan_as (pick_t c3) ?_
     |refine bool_true c3 ?_
     |refine ko_rT (gd_tt c1) ?_
     |refine ko_sF (gd_tt c1) ?_
     |refine plan_as (pick_t (gd_tt c1)) ?_
     |refine bool_true (gd_tt c1) ?_
     |refine sym_pure hC (pT) ?_
     |refine sym_drawn hS (by kernel_rfl) ?_); conv => whnf)
    refine sym_hideL fun K hK => ?_
    refine sym_loopG hE hS (A := Nat × Lk) [1, 2, 4, 7, 8, 9, 10, 11] (fun (j, _) => [(12, nv (lo + j))]) (fun (_, u) => [(3, obC u)]) (fun _ => []) (fun (j, u) => j ≤ w ∧ u = bsT N n d y (cB k (lo + s) lo j)) (fun (j, _) => w - j) (0, y) (Nat.le_of_ble_eq_true rfl) rfl (by refine ⟨rfl, rfl, rfl, rfl, rfl, rfl, 4, rfl, ?_, ?_⟩ <;> repeat' (first | exact trivial | exact rfl | exact ⟨_, rfl, WkV.refl _⟩ | exact ⟨_, rfl, WkV.own _ _ _⟩ | exact Nat.zero_le _ | exact bdl_no lN | exact bdl_no lM | exact Nat.le_of_ble_eq_true rfl | exact bdl_no (by assumption) | exact bdl_no (flat_no _) | exact bdl_no (ivs_no _) | exact bdl_no (svs_no _) | exact Nat.max_le.2 ⟨Nat.le_of_ble_eq_true rfl, bdl_no (ivs_no _)⟩ | exact Nat.max_le.2 ⟨Nat.le_of_ble_eq_true rfl, bdl_no (svs_no _)⟩ | apply And.intro)) ⟨Nat.zero_le _, rfl⟩ ?_
    rintro ⟨j, u⟩ ⟨hj, hu⟩ Q hQ
    obtain rfl : Q = 4 := hQ
    conv => whnf
    by_cases hj2 : j < w
    ·have xK : nwK N (k, lo + s, lo + j) := ⟨hk2, hd3, ⟨by show 4 ≤ lo + s; omega, by show lo + s ≤ 60; omega⟩, ⟨by show 4 ≤ lo + j; omega, by show lo + j ≤ 60; omega⟩⟩
     have uK : nwK N u := by rw [hu]; exact bsT_ok (fun x hx => by have := cB_mem.1 hx; exact ⟨by omega, by rw [this.1]; exact hd3, ⟨by omega, by omega⟩, ⟨by omega, by omega⟩⟩) yK
     have e1 : bsT N n d y (cB k (lo + s) lo (j + 1)) = if btL N n d (k, lo + s, lo + j) u then (k, lo + s, lo + j) else u := by rw [cB, bsT_one, ← hu]
     obtain ⟨o, po, ho⟩ : ∃ o, Pure prog 108 [fv (Int.ofNat n) (Int.ofNat d), pv (zp (nwT N (k, lo + s, lo + j))), pv (zp (nwT N u))] (iv o) ∧ decide (o < 0) = decide (btL N n d (k, lo + s, lo + j) u) := ⟨_, rNearer_pure (xK.tv h.ok) (uK.tv h.ok) n d hn hd, near_bt h.ok xK uK⟩
     have pX := rNew_pure h xK
     have pU := rNew_pure h uK
     have lX := flat_no (zp (nwT N (k, lo + s, lo + j)))
     have lU := flat_no (zp (nwT N u))
     have hj1 : IntKind.i64.wrap (Int.ofNat (lo + j) + 1) = Int.ofNat (lo + (j + 1)) := wrapN (m := lo + j + 1) (by omega)
     refine bool_true (decide_eq_true (show Int.ofNat (lo + j) ≤ Int.ofNat hi from Int.ofNat_le.2 (by omega))) ?_
     conv => whnf
     repeat ((first
      |refine sym_pure hC (pX) ?_
      |refine sym_pure hC (pU) ?_
      |refine sym_pure hC (po) ?_
      |refine sym_drawn hS (by kernel_rfl) ?_
      |refine sym_eq hq true (eqBool_same _ _) ?_
      |rw [beq_self_eq_true]
      |rw [bne_self_eq_false]); conv => whnf)
     by_cases hb : btL N n d (k, lo + s, lo + j) u
     ·rw [if_pos hb] at e1
      refine bool_true (ho.trans (decide_eq_true hb)) ?_
      conv => whnf
      exact ⟨(j + 1, (k, lo + s, lo + j)), ⟨hj2, e1.symm⟩, by show w - (j + 1) < w - j; omega, Nat.le_refl _, (by refine ⟨rfl, rfl, rfl, rfl, rfl, rfl, 4, rfl, ?_, ?_⟩ <;> repeat' (first | exact trivial | exact rfl | exact ⟨_, rfl, WkV.refl _⟩ | exact ⟨_, rfl, WkV.own _ _ _⟩ | exact Nat.zero_le _ | exact ⟨_, rfl, WkV.int hj1⟩ | exact bdl_no lN | exact bdl_no lM | exact Nat.le_of_ble_eq_true rfl | exact bdl_no (by assumption) | exact bdl_no (flat_no _) | exact bdl_no (ivs_no _) | exact bdl_no (svs_no _) | exact Nat.max_le.2 ⟨Nat.le_of_ble_eq_true rfl, bdl_no (ivs_no _)⟩ | exact Nat.max_le.2 ⟨Nat.le_of_ble_eq_true rfl, bdl_no (svs_no _)⟩ | apply And.intro))⟩
     ·rw [if_neg hb] at e1
      refine bool_false (ho.trans (decide_eq_false hb)) ?_
      conv => whnf
      exact ⟨(j + 1, u), ⟨hj2, e1.symm⟩, by show w - (j + 1) < w - j; omega, Nat.le_refl _, (by refine ⟨rfl, rfl, rfl, rfl, rfl, rfl, 4, rfl, ?_, ?_⟩ <;> repeat' (first | exact trivial | exact rfl | exact ⟨_, rfl, WkV.refl _⟩ | exact ⟨_, rfl, WkV.own _ _ _⟩ | exact Nat.zero_le _ | exact ⟨_, rfl, WkV.int hj1⟩ | exact bdl_no lN | exact bdl_no lM | exact Nat.le_of_ble_eq_true rfl | exact bdl_no (by assumption) | exact bdl_no (flat_no _) | exact bdl_no (ivs_no _) | exact bdl_no (svs_no _) | exact Nat.max_le.2 ⟨Nat.le_of_ble_eq_true rfl, bdl_no (ivs_no _)⟩ | exact Nat.max_le.2 ⟨Nat.le_of_ble_eq_true rfl, bdl_no (svs_no _)⟩ | apply And.intro))⟩
    ·refine bool_false (decide_eq_false (show ¬ Int.ofNat (lo + j) ≤ Int.ofNat hi from fun z => by have := Int.ofNat_le.1 z; omega)) ?_
     conv => whnf
     refine .inl (hK _ _ ?_)
     conv => whnf
     obtain rfl : w = j := by omega
     exact ⟨(s + 1, u), ⟨hs2, by rw [cA, bsT_app, ← hy]; exact hu⟩, by show w - (s + 1) < w - s; omega, Nat.le_refl _, (by refine ⟨rfl, rfl, rfl, rfl, rfl, rfl, 4, rfl, ?_, ?_⟩ <;> repeat' (first | exact trivial | exact rfl | exact ⟨_, rfl, WkV.refl _⟩ | exact ⟨_, rfl, WkV.own _ _ _⟩ | exact Nat.zero_le _ | exact ⟨_, rfl, WkV.int (show IntKind.i64.wrap (Int.ofNat (lo + s) + 1) = Int.ofNat (lo + (s + 1)) from wrapN (m := lo + s + 1) (by omega))⟩ | exact bdl_no lN | exact bdl_no lM | exact Nat.le_of_ble_eq_true rfl | exact bdl_no (by assumption) | exact bdl_no (flat_no _) | exact bdl_no (ivs_no _) | exact bdl_no (svs_no _) | exact Nat.max_le.2 ⟨Nat.le_of_ble_eq_true rfl, bdl_no (ivs_no _)⟩ | exact Nat.max_le.2 ⟨Nat.le_of_ble_eq_true rfl, bdl_no (svs_no _)⟩ | apply And.intro))⟩
   ·have c1 : decide (Int.ofNat (lo + s) ≤ Int.ofNat hi) = false := decide_eq_false fun z => by have := Int.ofNat_le.1 z; omega
    repeat ((first
     |refine ko_sT c1 ?_
     |refine ko_rF c1 ?_
     |refine plan_as (pick_f c1) ?_
     |refine bool_false c1 ?_
     |refine ko_sT (gd_tf c1) ?_
     |refine ko_rF (gd_tf c1) ?_
     |refine plan_as (pick_f (gd_tf c1)) ?_
     |refine bool_false (gd_tf c1) ?_
     |refine sym_drawn hS (by kernel_rfl) ?_); conv => whnf)
    refine .inl (hK _ _ ?_)
    conv => whnf
    obtain rfl : w = s := by omega
    exact ⟨(k + 1, y), ⟨by omega, by rw [cF, if_pos hd3, bsT_app, ← hz]; exact hy⟩, by show N.length + 1 - (k + 1) < N.length + 1 - k; omega, Nat.le_refl _, (by refine ⟨rfl, rfl, rfl, rfl, rfl, rfl, 4, rfl, ?_, ?_⟩ <;> repeat' (first | exact trivial | exact rfl | exact ⟨_, rfl, WkV.refl _⟩ | exact ⟨_, rfl, WkV.own _ _ _⟩ | exact Nat.zero_le _ | exact ⟨_, rfl, WkV.int (wrapN (m := k + 1) (by omega))⟩ | exact bdl_no lN | exact bdl_no lM | exact Nat.le_of_ble_eq_true rfl | exact bdl_no (by assumption) | exact bdl_no (flat_no _) | exact bdl_no (ivs_no _) | exact bdl_no (svs_no _) | exact Nat.max_le.2 ⟨Nat.le_of_ble_eq_true rfl, bdl_no (ivs_no _)⟩ | exact Nat.max_le.2 ⟨Nat.le_of_ble_eq_true rfl, bdl_no (svs_no _)⟩ | apply And.intro))⟩
  ·obtain ⟨pT, hd3⟩ := hA
   have c3 : decide (((zp (tr N k)).length : Int) < 3) = true := decide_eq_true (by rw [hzT]; omega)
   refine sym_hideL fun K hK => ?_
   refine sym_loopG hE hS (A := Nat × Lk) [1, 2, 4, 7, 8, 9, 10] (fun (s, _) => [(11, nv (lo + s))]) (fun (_, y) => [(3, obC y)]) (fun _ => []) (fun (s, y) => s ≤ w ∧ y = bsT N n d z (cA k lo w s)) (fun (s, _) => w - s) (0, z) (Nat.le_of_ble_eq_true rfl) rfl (by refine ⟨rfl, rfl, rfl, rfl, rfl, rfl, 4, rfl, ?_, ?_⟩ <;> repeat' (first | exact trivial | exact rfl | exact ⟨_, rfl, WkV.refl _⟩ | exact ⟨_, rfl, WkV.own _ _ _⟩ | exact Nat.zero_le _ | exact bdl_no lN | exact bdl_no lM | exact Nat.le_of_ble_eq_true rfl | exact bdl_no (by assumption) | exact bdl_no (flat_no _) | exact bdl_no (ivs_no _) | exact bdl_no (svs_no _) | exact Nat.max_le.2 ⟨Nat.le_of_ble_eq_true rfl, bdl_no (ivs_no _)⟩ | exact Nat.max_le.2 ⟨Nat.le_of_ble_eq_true rfl, bdl_no (svs_no _)⟩ | apply And.intro)) ⟨Nat.zero_le _, rfl⟩ ?_
   rintro ⟨s, y⟩ ⟨hs, hy⟩ Q hQ
   obtain rfl : Q = 4 := hQ
   conv => whnf
   by_cases hs2 : s < w
   ·have c1 : decide (Int.ofNat (lo + s) ≤ Int.ofNat hi) = true := decide_eq_true (Int.ofNat_le.2 (by omega))
    have yK : nwK N y := by rw [hy]; exact bsT_ok (fun x hx => by have := cA_mem.1 hx; exact ⟨by omega, by rw [this.1]; exact hd3, ⟨by omega, by omega⟩, ⟨by omega, by omega⟩⟩) zK
    repeat ((first
     |refine ko_rT c1 ?_
     |refine ko_sF c1 ?_
     |refine plan_as (pick_t c1) ?_
     |refine bool_true c1 ?_
     |refine ko_rT c3 ?_
     |refine ko_sF c3 ?_
     |refine plan_as (pick_t c3) ?_
     |refine bool_true c3 ?_
     |refine ko_rT (gd_tt c1) ?_
     |refine ko_sF (gd_tt c1) ?_
     |refine plan_as (pick_t (gd_tt c1)) ?_
     |refine bool_true (gd_tt c1) ?_
     |refine sym_pure hC (pT) ?_
     |refine sym_drawn hS (by kernel_rfl) ?_); conv => whnf)
    refine sym_hideL fun K hK => ?_
    refine sym_loopG hE hS (A := Nat × Lk) [1, 2, 4, 7, 8, 9, 10, 11] (fun (j, _) => [(12, nv (lo + j))]) (fun (_, u) => [(3, obC u)]) (fun _ => []) (fun (j, u) => j ≤ w ∧ u = bsT N n d y (cB k (lo + s) lo j)) (fun (j, _) => w - j) (0, y) (Nat.le_of_ble_eq_true rfl) rfl (by refine ⟨rfl, rfl, rfl, rfl, rfl, rfl, 4, rfl, ?_, ?_⟩ <;> repeat' (first | exact trivial | exact rfl | exact ⟨_, rfl, WkV.refl _⟩ | exact ⟨_, rfl, WkV.own _ _ _⟩ | exact Nat.zero_le _ | exact bdl_no lN | exact bdl_no lM | exact Nat.le_of_ble_eq_true rfl | exact bdl_no (by assumption) | exact bdl_no (flat_no _) | exact bdl_no (ivs_no _) | exact bdl_no (svs_no _) | exact Nat.max_le.2 ⟨Nat.le_of_ble_eq_true rfl, bdl_no (ivs_no _)⟩ | exact Nat.max_le.2 ⟨Nat.le_of_ble_eq_true rfl, bdl_no (svs_no _)⟩ | apply And.intro)) ⟨Nat.zero_le _, rfl⟩ ?_
    rintro ⟨j, u⟩ ⟨hj, hu⟩ Q hQ
    obtain rfl : Q = 4 := hQ
    conv => whnf
    by_cases hj2 : j < w
    ·have xK : nwK N (k, lo + s, lo + j) := ⟨hk2, hd3, ⟨by show 4 ≤ lo + s; omega, by show lo + s ≤ 60; omega⟩, ⟨by show 4 ≤ lo + j; omega, by show lo + j ≤ 60; omega⟩⟩
     have uK : nwK N u := by rw [hu]; exact bsT_ok (fun x hx => by have := cB_mem.1 hx; exact ⟨by omega, by rw [this.1]; exact hd3, ⟨by omega, by omega⟩, ⟨by omega, by omega⟩⟩) yK
     have e1 : bsT N n d y (cB k (lo + s) lo (j + 1)) = if btL N n d (k, lo + s, lo + j) u then (k, lo + s, lo + j) else u := by rw [cB, bsT_one, ← hu]
     obtain ⟨o, po, ho⟩ : ∃ o, Pure prog 108 [fv (Int.ofNat n) (Int.ofNat d), pv (zp (nwT N (k, lo + s, lo + j))), pv (zp (nwT N u))] (iv o) ∧ decide (o < 0) = decide (btL N n d (k, lo + s, lo + j) u) := ⟨_, rNearer_pure (xK.tv h.ok) (uK.tv h.ok) n d hn hd, near_bt h.ok xK uK⟩
     have pX := rNew_pure h xK
     have pU := rNew_pure h uK
     have lX := flat_no (zp (nwT N (k, lo + s, lo + j)))
     have lU := flat_no (zp (nwT N u))
     have hj1 : IntKind.i64.wrap (Int.ofNat (lo + j) + 1) = Int.ofNat (lo + (j + 1)) := wrapN (m := lo + j + 1) (by omega)
     refine bool_true (decide_eq_true (show Int.ofNat (lo + j) ≤ Int.ofNat hi from Int.ofNat_le.2 (by omega))) ?_
     conv => whnf
     repeat ((first
      |refine sym_pure hC (pX) ?_
      |refine sym_pure hC (pU) ?_
      |refine sym_pure hC (po) ?_
      |refine sym_drawn hS (by kernel_rfl) ?_
      |refine sym_eq hq true (eqBool_same _ _) ?_
      |rw [beq_self_eq_true]
      |rw [bne_self_eq_false]); conv => whnf)
     by_cases hb : btL N n d (k, lo + s, lo + j) u
     ·rw [if_pos hb] at e1
      refine bool_true (ho.trans (decide_eq_true hb)) ?_
      conv => whnf
      exact ⟨(j + 1, (k, lo + s, lo + j)), ⟨hj2, e1.symm⟩, by show w - (j + 1) < w - j; omega, Nat.le_refl _, (by refine ⟨rfl, rfl, rfl, rfl, rfl, rfl, 4, rfl, ?_, ?_⟩ <;> repeat' (first | exact trivial | exact rfl | exact ⟨_, rfl, WkV.refl _⟩ | exact ⟨_, rfl, WkV.own _ _ _⟩ | exact Nat.zero_le _ | exact ⟨_, rfl, WkV.int hj1⟩ | exact bdl_no lN | exact bdl_no lM | exact Nat.le_of_ble_eq_true rfl | exact bdl_no (by assumption) | exact bdl_no (flat_no _) | exact bdl_no (ivs_no _) | exact bdl_no (svs_no _) | exact Nat.max_le.2 ⟨Nat.le_of_ble_eq_true rfl, bdl_no (ivs_no _)⟩ | exact Nat.max_le.2 ⟨Nat.le_of_ble_eq_true rfl, bdl_no (svs_no _)⟩ | apply And.intro))⟩
     ·rw [if_neg hb] at e1
      refine bool_false (ho.trans (decide_eq_false hb)) ?_
      conv => whnf
      exact ⟨(j + 1, u), ⟨hj2, e1.symm⟩, by show w - (j + 1) < w - j; omega, Nat.le_refl _, (by refine ⟨rfl, rfl, rfl, rfl, rfl, rfl, 4, rfl, ?_, ?_⟩ <;> repeat' (first | exact trivial | exact rfl | exact ⟨_, rfl, WkV.refl _⟩ | exact ⟨_, rfl, WkV.own _ _ _⟩ | exact Nat.zero_le _ | exact ⟨_, rfl, WkV.int hj1⟩ | exact bdl_no lN | exact bdl_no lM | exact Nat.le_of_ble_eq_true rfl | exact bdl_no (by assumption) | exact bdl_no (flat_no _) | exact bdl_no (ivs_no _) | exact bdl_no (svs_no _) | exact Nat.max_le.2 ⟨Nat.le_of_ble_eq_true rfl, bdl_no (ivs_no _)⟩ | exact Nat.max_le.2 ⟨Nat.le_of_ble_eq_true rfl, bdl_no (svs_no _)⟩ | apply And.intro))⟩
    ·refine bool_false (decide_eq_false (show ¬ Int.ofNat (lo + j) ≤ Int.ofNat hi from fun z => by have := Int.ofNat_le.1 z; omega)) ?_
     conv => whnf
     refine .inl (hK _ _ ?_)
     conv => whnf
     obtain rfl : w = j := by omega
     exact ⟨(s + 1, u), ⟨hs2, by rw [cA, bsT_app, ← hy]; exact hu⟩, by show w - (s + 1) < w - s; omega, Nat.le_refl _, (by refine ⟨rfl, rfl, rfl, rfl, rfl, rfl, 4, rfl, ?_, ?_⟩ <;> repeat' (first | exact trivial | exact rfl | exact ⟨_, rfl, WkV.refl _⟩ | exact ⟨_, rfl, WkV.own _ _ _⟩ | exact Nat.zero_le _ | exact ⟨_, rfl, WkV.int (show IntKind.i64.wrap (Int.ofNat (lo + s) + 1) = Int.ofNat (lo + (s + 1)) from wrapN (m := lo + s + 1) (by omega))⟩ | exact bdl_no lN | exact bdl_no lM | exact Nat.le_of_ble_eq_true rfl | exact bdl_no (by assumption) | exact bdl_no (flat_no _) | exact bdl_no (ivs_no _) | exact bdl_no (svs_no _) | exact Nat.max_le.2 ⟨Nat.le_of_ble_eq_true rfl, bdl_no (ivs_no _)⟩ | exact Nat.max_le.2 ⟨Nat.le_of_ble_eq_true rfl, bdl_no (svs_no _)⟩ | apply And.intro))⟩
   ·have c1 : decide (Int.ofNat (lo + s) ≤ Int.ofNat hi) = false := decide_eq_false fun z => by have := Int.ofNat_le.1 z; omega
    repeat ((first
     |refine ko_sT c1 ?_
     |refine ko_rF c1 ?_
     |refine plan_as (pick_f c1) ?_
     |refine bool_false c1 ?_
     |refine ko_sT (gd_tf c1) ?_
     |refine ko_rF (gd_tf c1) ?_
     |refine plan_as (pick_f (gd_tf c1)) ?_
     |refine bool_false (gd_tf c1) ?_
     |refine sym_drawn hS (by kernel_rfl) ?_); conv => whnf)
    refine .inl (hK _ _ ?_)
    conv => whnf
    obtain rfl : w = s := by omega
    exact ⟨(k + 1, y), ⟨by omega, by rw [cF, if_pos hd3, bsT_app, ← hz]; exact hy⟩, by show N.length + 1 - (k + 1) < N.length + 1 - k; omega, Nat.le_refl _, (by refine ⟨rfl, rfl, rfl, rfl, rfl, rfl, 4, rfl, ?_, ?_⟩ <;> repeat' (first | exact trivial | exact rfl | exact ⟨_, rfl, WkV.refl _⟩ | exact ⟨_, rfl, WkV.own _ _ _⟩ | exact Nat.zero_le _ | exact ⟨_, rfl, WkV.int (wrapN (m := k + 1) (by omega))⟩ | exact bdl_no lN | exact bdl_no lM | exact Nat.le_of_ble_eq_true rfl | exact bdl_no (by assumption) | exact bdl_no (flat_no _) | exact bdl_no (ivs_no _) | exact bdl_no (svs_no _) | exact Nat.max_le.2 ⟨Nat.le_of_ble_eq_true rfl, bdl_no (ivs_no _)⟩ | exact Nat.max_le.2 ⟨Nat.le_of_ble_eq_true rfl, bdl_no (svs_no _)⟩ | apply And.intro))⟩
  ·obtain ⟨pT, hd3⟩ := hC3
   have c1 : decide (Int.ofNat lo ≤ Int.ofNat hi) = true := decide_eq_true (Int.ofNat_le.2 hle)
   have c3 : decide (((zp (tr N k)).length : Int) < 3) = false := decide_eq_false (by rw [hzT]; omega)
   refine sym_unroll hE hS ?_
   conv => whnf
   repeat ((first
    |refine ko_rT c1 ?_
    |refine ko_sF c1 ?_
    |refine plan_as (pick_t c1) ?_
    |refine bool_true c1 ?_
    |refine ko_sT c3 ?_
    |refine ko_rF c3 ?_
    |refine plan_as (pick_f c3) ?_
    |refine bool_false c3 ?_
    |refine ko_rT (gd_tt c1) ?_
    |refine ko_sF (gd_tt c1) ?_
    |refine plan_as (pick_t (gd_tt c1)) ?_
    |refine bool_true (gd_tt c1) ?_
    |refine sym_pure hC (pT) ?_
    |refine sym_drawn hS (by kernel_rfl) ?_); conv => whnf)
   exact ⟨(k + 1, z), ⟨by omega, by rw [cF, if_neg hd3, List.append_nil]; exact hz⟩, by show N.length + 1 - (k + 1) < N.length + 1 - k; omega, Nat.le_refl _, (by refine ⟨rfl, rfl, rfl, rfl, rfl, rfl, 4, rfl, ?_, ?_⟩ <;> repeat' (first | exact trivial | exact rfl | exact ⟨_, rfl, WkV.refl _⟩ | exact ⟨_, rfl, WkV.own _ _ _⟩ | exact Nat.zero_le _ | exact ⟨_, rfl, WkV.int (wrapN (m := k + 1) (by omega))⟩ | exact bdl_no lN | exact bdl_no lM | exact Nat.le_of_ble_eq_true rfl | exact bdl_no (by assumption) | exact bdl_no (flat_no _) | exact bdl_no (ivs_no _) | exact bdl_no (svs_no _) | exact Nat.max_le.2 ⟨Nat.le_of_ble_eq_true rfl, bdl_no (ivs_no _)⟩ | exact Nat.max_le.2 ⟨Nat.le_of_ble_eq_true rfl, bdl_no (svs_no _)⟩ | apply And.intro))⟩
 ·refine bool_false (decide_eq_false (show ¬ Int.ofNat k ≤ (N.length : Int) from fun z => hk2 (Int.ofNat_le.1 z))) ?_
  conv => whnf
  refine .inl ?_
  conv => whnf
  obtain rfl : k = N.length + 1 := by omega
  rw [← hz]
  exact ⟨_, rfl, Wk.refl _⟩
end
end Go.Abs.Seat
